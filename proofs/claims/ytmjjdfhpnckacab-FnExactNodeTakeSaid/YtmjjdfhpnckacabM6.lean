/-
  Part 6 of the proof of FnExactNodeTake: a verification-condition generator over the program and the contracts of its functions, in the order of their use.
  Conditions: none.
-/
import Derived.Test.YtmjjdfhpnckacabM5
set_option linter.unusedVariables false
set_option linter.unusedSimpArgs false

section
namespace Go.Proofs.Ytmjjdfhpnckacab
set_option maxRecDepth 100000
set_option linter.unusedSimpArgs false

theorem wrapU8 {n : Int} (h : 0 ≤ n ∧ n ≤ 255) : IntKind.u8.wrap n = n := by
  simp [IntKind.wrap, IntKind.signed, IntKind.bits]; omega

def digs (n : Nat) : List UInt8 := if h : n = 0 then [] else digs (n / 10) ++ [UInt8.ofNat (48 + n % 10)]
termination_by n
decreasing_by omega
def mtext (k : Int) : List UInt8 := if k ≤ 0 then [109, 48] else 109 :: digs k.toNat

def c_markText : FSpec := ⟨[(.rd, .int .i64)], [.str], true, fun ps => (nth ps 0).I ≤ 1073741824, fun ps => [.str (mtext (nth ps 0).I)], fun _ => []⟩
theorem k_markText : FnOk Try.prog 97 c_markText := by
  refine fn_mk [0, 2, 3] [.tmp 2] (env_nil (tyTab_ok [])) mixed Try.func97 rfl (by decide) rfl (by decide) rfl ?_
  intro ps hT hpre W hW
  simp only [c_markText, TyA, Ty, Tys] at hT hpre
  obtain ⟨_, _, rfl, ⟨k, rfl, hk⟩, rfl⟩ := hT
  simp only [nth_zero, pv_I] at hpre
  rw [inR64] at hk
  refine hW.vc [] _ _ ?_
  simp [-List.getD_eq_getElem?_getD, c_markText]
  refine ⟨fun h => by rw [mtext, if_pos h], fun h => hW.loopS _ _ _ [.sl 3 .dp .str, .sl 0 .dp (.int .i64)] (fun ys => ∃ (out : List UInt8) (x : Int), ys = [.str out, .int .i64 x] ∧ 0 ≤ x ∧ x ≤ k ∧ out.length + x ≤ k ∧ digs k.toNat = digs x.toNat ++ out) (fun ys => (nth ys 1).I.toNat) ?_ ?_⟩
  · simp [-List.getD_eq_getElem?_getD, c_markText]
    exact ⟨_, _, ⟨rfl, rfl⟩, by omega, by omega, by simp, by simp⟩
  · rintro ys ⟨out, x, rfl, h2, h3, h4, h5⟩
    refine hW.vc [] _ _ ?_
    simp [-List.getD_eq_getElem?_getD, c_markText, pvBytes]
    obtain ⟨m, rfl⟩ := Int.eq_ofNat_of_zero_le h2
    have e1 : ((m : Int)).tmod 10 = ((m % 10 : Nat) : Int) := rfl
    have e2 : ((m : Int)).tdiv 10 = ((m / 10 : Nat) : Int) := rfl
    rw [e1, e2, wrap64 (n := 48 + ((m % 10 : Nat) : Int)) (by omega), wrap64 (n := ((m / 10 : Nat) : Int)) (by omega), wrapU8 (by omega)]
    refine ⟨fun h6 => ⟨by omega, ⟨_, _, ⟨rfl, rfl⟩, by omega, by omega, by simp only [List.length_cons]; omega, ?_⟩, by omega⟩, fun h6 => ⟨by omega, ?_⟩⟩
    · have h7 : m ≠ 0 := by omega
      have e3 : (48 + ((m % 10 : Nat) : Int)).toNat = 48 + m % 10 := by omega
      rw [h5, e3, Int.toNat_natCast, Int.toNat_natCast, digs, dif_neg h7, List.append_assoc]; rfl
    · have h7 : m = 0 := by omega
      subst h7
      rw [mtext, if_neg (by omega), h5]
      simp [digs]

def markS (k : Int) : Nat → List PV
  | 0 => []
  | n + 1 => .str (mtext k) :: markS (k + 1) n
theorem markS_len : ∀ (n : Nat) (k : Int), (markS k n).length = n
  | 0, _ => rfl
  | n + 1, k => by simp [markS, markS_len n]
theorem markS_snoc : ∀ (n : Nat) (k : Int), markS k (n + 1) = markS k n ++ [.str (mtext (k + n))]
  | 0, k => by simp [markS]
  | n + 1, k => by
    rw [markS, markS_snoc n (k + 1), markS, List.cons_append]
    simp only [List.cons.injEq, true_and, List.append_cancel_left_eq, and_true, PV.str.injEq]
    congr 1; omega

theorem nth_set {l : List PV} {i : Nat} {x : PV} (h : i < l.length) : nth (l.set i x) i = x := by simp [nth, h]
theorem mark_step {m es : List PV} {i : Nat} {x : PV} {m' : List PV} (h1 : m.length = i) (h2 : i < es.length) (h3 : m' = m ++ [x]) : (m ++ es.drop i).set i x = m' ++ es.drop (i + 1) := by
  subst h3
  rw [List.set_append_right _ _ (by omega), h1, Nat.sub_self, drop_nth h2, List.set_cons_zero, List.append_assoc, List.singleton_append]

def c_markStringS : FSpec := ⟨[(.mt, .list .str), (.rd, .int .i64)], [.int .i64], true, fun ps => 0 ≤ (nth ps 1).I ∧ (nth ps 1).I + (nth ps 0).L.length ≤ 1073741824, fun ps => [.int .i64 ((nth ps 1).I + (nth ps 0).L.length)], fun ps => [.list (markS (nth ps 1).I (nth ps 0).L.length)]⟩
def heldGo (f : Int → PV → Bool) (d : Int) (k : Int) : List PV → Int
  | [] => k
  | e :: es => if f k e then heldGo f d (k + d) es else -1
theorem held_neg {f : Int → PV → Bool} {d : Int} (hd : 0 ≤ d) : ∀ {es : List PV} {k : Int}, 0 ≤ k → heldGo f d k es < 0 → heldGo f d k es = -1
  | [], k, hk, h => by simp only [heldGo] at h; omega
  | e :: es, k, hk, h => by
    simp only [heldGo] at h ⊢
    split
    · rename_i h1
      rw [if_pos h1] at h
      exact held_neg hd (by omega) h
    · rfl
def heldS1 (k : Int) (e : PV) : Bool := e.S == mtext k
theorem held_marked {f : Int → PV → Bool} {d : Int} {m : Int → Nat → List PV} (h0 : ∀ k, m k 0 = []) (h1 : ∀ k n, ∃ x, m k (n + 1) = x :: m (k + d) n ∧ f k x = true) : ∀ (n : Nat) (k : Int), heldGo f d k (m k n) = k + d * n
  | 0, k => by simp [h0, heldGo]
  | n + 1, k => by
    obtain ⟨x, h2, h3⟩ := h1 k n
    rw [h2, heldGo, if_pos h3, held_marked h0 h1 n, Int.natCast_add, Int.mul_add]; omega
theorem heldS_mark (n : Nat) (k : Int) : heldGo heldS1 1 k (markS k n) = k + n := by
  rw [held_marked (m := markS) (fun _ => rfl) (fun k n => ⟨_, rfl, by simp [heldS1, pv_S]⟩), Int.one_mul]

def c_heldStringS : FSpec := ⟨[(.rd, .list .str), (.rd, .int .i64)], [.int .i64], true, fun ps => 0 ≤ (nth ps 1).I ∧ (nth ps 1).I + (nth ps 0).L.length ≤ 1073741824, fun ps => [.int .i64 (heldGo heldS1 1 (nth ps 1).I (nth ps 0).L)], fun _ => []⟩
/-- Rows marked. -/
def markR (k : Int) : Nat → List PV
  | 0 => []
  | n + 1 => .agg [.int .i64 k, .str (mtext (k + 1))] :: markR (k + 2) n
theorem markR_len : ∀ (n : Nat) (k : Int), (markR k n).length = n
  | 0, _ => rfl
  | n + 1, k => by simp [markR, markR_len n]
theorem markR_snoc : ∀ (n : Nat) (k : Int), markR k (n + 1) = markR k n ++ [.agg [.int .i64 (k + 2 * n), .str (mtext (k + 2 * n + 1))]]
  | 0, k => by simp [markR]
  | n + 1, k => by
    rw [markR, markR_snoc n (k + 2), markR, List.cons_append]
    have e : k + 2 + 2 * (n : Int) = k + 2 * ((n + 1 : Nat) : Int) := by omega
    rw [e]
def c_markRowS : FSpec := ⟨[(.mt, .list (.agg [.int .i64, .str])), (.rd, .int .i64)], [.int .i64], true, fun ps => 0 ≤ (nth ps 1).I ∧ (nth ps 1).I + 2 * (nth ps 0).L.length ≤ 1073741823, fun ps => [.int .i64 ((nth ps 1).I + 2 * (nth ps 0).L.length)], fun ps => [.list (markR (nth ps 1).I (nth ps 0).L.length)]⟩
theorem k_markRowS : FnOk Try.prog 51 c_markRowS := by
  refine fn_mk [0, 1, 4, 5] [.tmp 4] (env_cons (cs := []) k_markText (env_nil (tyTab_ok []))) mixed Try.func51 rfl (by decide) rfl (by decide) rfl ?_
  intro ps hT hpre W hW
  simp only [c_markRowS, TyA, Ty, Tys] at hT hpre
  obtain ⟨_, _, rfl, ⟨es, rfl, hes, tes⟩, _, _, rfl, ⟨k, rfl, hk⟩, rfl⟩ := hT
  simp only [nth_zero, nth_succ, pv_I, pv_L] at hpre
  refine hW.vc [] _ _ ?_
  simp [-List.getD_eq_getElem?_getD, c_markRowS, c_markText]
  refine hW.loopS _ _ _ [.ar 0 (.agg [.int .i64, .str]), .sl 1 .dp (.int .i64), .sl 5 .dp (.int .i64)] (fun ys => ∃ i : Nat, ys = [.list (markR k i ++ es.drop i), .int .i64 (k + 2 * i), .int .i64 i] ∧ i ≤ es.length) (fun ys => es.length - (nth ys 2).I.toNat) ?_ ?_
  · simp [-List.getD_eq_getElem?_getD, c_markRowS, c_markText]
    exact ⟨0, ⟨by simp [markR], by omega, rfl⟩, by omega⟩
  · rintro ys ⟨i, rfl, h2⟩
    refine hW.vc [] _ _ ?_
    simp [-List.getD_eq_getElem?_getD, c_markRowS, c_markText]
    rw [markR_len]
    have e1 : IntKind.i64.wrap (k + 2 * (i : Int) + 1) = k + 2 * i + 1 := wrap64 (by omega)
    rw [e1, wrap64 (n := k + 2 * (i : Int) + 1 + 1) (by omega), wrap64 (n := (i : Int) + 1) (by omega)]
    refine fun _ => ⟨fun h3 => ⟨by omega, by omega, by omega, by omega, by omega, ⟨i + 1, ⟨?_, by omega, by omega⟩, by omega⟩, by omega⟩, fun h3 => ?_⟩
    · rw [nth_set (by rw [List.length_append, markR_len, List.length_drop]; omega), pv_A, nth_zero]
      exact mark_step (markR_len i k) (by omega) (markR_snoc i k)
    · have : i = es.length := by omega
      subst this
      simp

def heldR1 (k : Int) (e : PV) : Bool := (nth e.A 0).I == k && (nth e.A 1).S == mtext (k + 1)
theorem heldR_mark (n : Nat) (k : Int) : heldGo heldR1 2 k (markR k n) = k + 2 * n := by
  rw [held_marked (m := markR) (fun _ => rfl) (fun k n => ⟨_, rfl, by simp [heldR1, pv_S, pv_I, pv_A, nth_zero, nth_succ]⟩)]

def c_heldRowS : FSpec := ⟨[(.rd, .list (.agg [.int .i64, .str])), (.rd, .int .i64)], [.int .i64], true, fun ps => 0 ≤ (nth ps 1).I ∧ (nth ps 1).I + 2 * (nth ps 0).L.length ≤ 1073741823, fun ps => [.int .i64 (heldGo heldR1 2 (nth ps 1).I (nth ps 0).L)], fun _ => []⟩
theorem k_heldRowS : FnOk Try.prog 52 c_heldRowS := by
  refine fn_mk [0, 1, 4, 5] [.tmp 4] (env_cons (cs := []) k_markText (env_nil (tyTab_ok []))) mixed Try.func52 rfl (by decide) rfl (by decide) rfl ?_
  intro ps hT hpre W hW
  simp only [c_heldRowS, TyA, Ty, Tys] at hT hpre
  obtain ⟨_, _, rfl, ⟨es, rfl, hes, tes⟩, _, _, rfl, ⟨k, rfl, hk⟩, rfl⟩ := hT
  simp only [nth_zero, nth_succ, pv_I, pv_L] at hpre
  refine hW.vc [(7, [], .take 0 <| .take 1 <| .take 2 <| .take 3 <| .take 4 <| .take 5 <| .alt 6 (.take 7 <| .done) .stop)] _ _ ?_
  simp [-List.getD_eq_getElem?_getD, c_heldRowS, c_markText]
  refine hW.loopS _ _ _ [.sl 1 .dp (.int .i64), .sl 5 .dp (.int .i64)] (fun ys => ∃ i : Nat, ys = [.int .i64 (k + 2 * i), .int .i64 i] ∧ i ≤ es.length ∧ heldGo heldR1 2 k es = heldGo heldR1 2 (k + 2 * i) (es.drop i)) (fun ys => es.length - (nth ys 1).I.toNat) ?_ ?_
  · simp [-List.getD_eq_getElem?_getD, c_heldRowS, c_markText]
    exact ⟨0, ⟨by omega, rfl⟩, by omega, by simp⟩
  · rintro ys ⟨i, rfl, h2, h3⟩
    refine hW.vc [(7, [], .take 0 <| .take 1 <| .take 2 <| .take 3 <| .take 4 <| .take 5 <| .alt 6 (.take 7 <| .done) .stop)] _ _ ?_
    simp [-List.getD_eq_getElem?_getD, c_heldRowS, c_markText]
    have e1 : IntKind.i64.wrap (k + 2 * (i : Int) + 1) = k + 2 * i + 1 := wrap64 (by omega)
    rw [e1, wrap64 (n := k + 2 * (i : Int) + 1 + 1) (by omega), wrap64 (n := (i : Int) + 1) (by omega)]
    refine fun _ => ⟨fun h4 => ⟨h4, fun _ => ⟨fun h5 => ?_, fun h5 => ⟨by decide +kernel, h4, fun _ => ⟨by omega, fun h6 => ?_, fun h6 => ⟨⟨i + 1, ⟨by omega, by omega⟩, by omega, ?_⟩, by omega⟩⟩⟩⟩⟩, fun h4 => ?_⟩
    · rw [h3, drop_nth h4, heldGo, if_neg (by simp [heldR1, h5])]
    · rw [h3, drop_nth h4, heldGo, if_neg (by simp [heldR1, h6])]
    · have e2 : k + 2 * ((i + 1 : Nat) : Int) = k + 2 * i + 2 := by omega
      rw [h3, drop_nth h4, heldGo, if_pos (by simp [heldR1, h5, h6]), e2]
    · rw [h3, List.drop_eq_nil_of_le h4]; rfl

def c_markView : FSpec := ⟨[(.mt, .agg [.int .i64, .int .i64, .bool, .int .i64, .int .i64, .list (.agg [.int .i64, .str])]), (.rd, .int .i64)], [.int .i64], true, fun ps => 0 ≤ (nth ps 1).I ∧ (nth ps 1).I + 2 * (nth (nth ps 0).A 5).L.length ≤ 1073741823, fun ps => [.int .i64 ((nth ps 1).I + 2 * (nth (nth ps 0).A 5).L.length)],
  fun ps => [.agg [nth (nth ps 0).A 0, nth (nth ps 0).A 1, nth (nth ps 0).A 2, nth (nth ps 0).A 3, nth (nth ps 0).A 4, .list (markR (nth ps 1).I (nth (nth ps 0).A 5).L.length)]]⟩
theorem k_markView : FnOk Try.prog 14 c_markView := by
  refine fn_mk [0, 1, 2, 4] [.tmp 4] (env_cons (cs := []) k_markRowS (env_nil (tyTab_ok []))) mixed Try.func14 rfl (by decide) rfl (by decide) rfl ?_
  intro ps hT hpre W hW
  simp only [c_markView, TyA, Ty, Tys] at hT hpre
  obtain ⟨_, _, rfl, ⟨_, rfl, _, _, rfl, ⟨n, rfl, hn⟩, _, _, rfl, ⟨f, rfl, hf⟩, _, _, rfl, ⟨u, rfl⟩, _, _, rfl, ⟨w, rfl, hw⟩, _, _, rfl, ⟨h, rfl, hh⟩, _, _, rfl, ⟨es, rfl, hes, tes⟩, rfl⟩, _, _, rfl, ⟨k, rfl, hk⟩, rfl⟩ := hT
  simp only [nth_zero, nth_succ, pv_I, pv_L, pv_A] at hpre
  refine hW.vc [] _ _ ?_
  simp [-List.getD_eq_getElem?_getD, c_markView, c_markRowS]
  exact hpre
def c_heldView : FSpec := ⟨[(.rd, .agg [.int .i64, .int .i64, .bool, .int .i64, .int .i64, .list (.agg [.int .i64, .str])]), (.rd, .int .i64)], [.int .i64], true, fun ps => 0 ≤ (nth ps 1).I ∧ (nth ps 1).I + 2 * (nth (nth ps 0).A 5).L.length ≤ 1073741823, fun ps => [.int .i64 (heldGo heldR1 2 (nth ps 1).I (nth (nth ps 0).A 5).L)], fun _ => []⟩
theorem k_heldView : FnOk Try.prog 15 c_heldView := by
  refine fn_mk [0, 1, 2, 4] [.tmp 4] (env_cons (cs := []) k_heldRowS (env_nil (tyTab_ok []))) mixed Try.func15 rfl (by decide) rfl (by decide) rfl ?_
  intro ps hT hpre W hW
  simp only [c_heldView, TyA, Ty, Tys] at hT hpre
  obtain ⟨_, _, rfl, ⟨_, rfl, _, _, rfl, ⟨n, rfl, hn⟩, _, _, rfl, ⟨f, rfl, hf⟩, _, _, rfl, ⟨u, rfl⟩, _, _, rfl, ⟨w, rfl, hw⟩, _, _, rfl, ⟨h, rfl, hh⟩, _, _, rfl, ⟨es, rfl, hes, tes⟩, rfl⟩, _, _, rfl, ⟨k, rfl, hk⟩, rfl⟩ := hT
  simp only [nth_zero, nth_succ, pv_I, pv_L, pv_A] at hpre
  refine hW.vc [] _ _ ?_
  simp [-List.getD_eq_getElem?_getD, c_heldView, c_heldRowS]
  exact ⟨hpre, fun h1 => (held_neg (by omega) (by omega) h1).symm⟩
def c_markMirror : FSpec := ⟨[(.mt, .agg [.int .i64, .int .i64, .int .i64, .list .str]), (.rd, .int .i64)], [.int .i64], true, fun ps => 0 ≤ (nth ps 1).I ∧ (nth ps 1).I + (nth (nth ps 0).A 3).L.length ≤ 1073741823, fun ps => [.int .i64 ((nth ps 1).I + (nth (nth ps 0).A 3).L.length)],
  fun ps => [.agg [nth (nth ps 0).A 0, nth (nth ps 0).A 1, nth (nth ps 0).A 2, .list (markS (nth ps 1).I (nth (nth ps 0).A 3).L.length)]]⟩
def c_heldMirror : FSpec := ⟨[(.rd, .agg [.int .i64, .int .i64, .int .i64, .list .str]), (.rd, .int .i64)], [.int .i64], true, fun ps => 0 ≤ (nth ps 1).I ∧ (nth ps 1).I + (nth (nth ps 0).A 3).L.length ≤ 1073741823, fun ps => [.int .i64 (heldGo heldS1 1 (nth ps 1).I (nth (nth ps 0).A 3).L)], fun _ => []⟩
end Go.Proofs.Ytmjjdfhpnckacab
end

section
namespace Go.Proofs.Ytmjjdfhpnckacab
set_option maxRecDepth 100000
set_option linter.unusedSimpArgs false

def numB (l : List UInt8) : Int := l.foldl (fun n b => n * 256 + b.toNat) 0
theorem numB_snoc (l : List UInt8) (b : UInt8) : numB (l ++ [b]) = numB l * 256 + b.toNat := by simp [numB]
theorem numB_take {l : List UInt8} {i : Nat} (h : i < l.length) : numB (l.take (i + 1)) = numB (l.take i) * 256 + (l.getD i 0).toNat := by
  rw [List.take_succ_eq_append_getElem h, numB_snoc]; simp [h]
theorem numB_bound : ∀ (n : Nat) (l : List UInt8), l.length = n → 0 ≤ numB l ∧ numB l < 256 ^ n
  | 0, l, h => by have := List.eq_nil_of_length_eq_zero h; subst this; simp [numB]
  | n + 1, l, h => by
    have h0 : l ≠ [] := by intro e; subst e; simp at h
    have h1 := List.dropLast_concat_getLast h0
    have h2 := numB_bound n l.dropLast (by simp [h])
    have h3 := (l.getLast h0).toNat_lt
    rw [← h1, numB_snoc, Int.pow_succ]
    omega
theorem numB_le {l : List UInt8} (h : l.length ≤ 7) (i : Nat) : 0 ≤ numB (l.take i) ∧ numB (l.take i) < 72057594037927936 := by
  have h1 := numB_bound (l.take i).length (l.take i) rfl
  refine ⟨h1.1, Int.lt_of_lt_of_le h1.2 ?_⟩
  have h2 : (l.take i).length ≤ 7 := by simp; omega
  have h3 : (256 : Int) ^ (l.take i).length ≤ 256 ^ 7 := by
    have := Nat.pow_le_pow_right (n := 256) (by decide) h2
    exact_mod_cast this
  exact Int.le_trans h3 (by decide)
theorem numB_le6 {l : List UInt8} (h : l.length ≤ 7) {i : Nat} (hi : i < l.length) : 0 ≤ numB (l.take i) ∧ numB (l.take i) < 281474976710656 := by
  have h1 := numB_bound (l.take i).length (l.take i) rfl
  refine ⟨h1.1, Int.lt_of_lt_of_le h1.2 ?_⟩
  have h2 : (l.take i).length ≤ 6 := by simp; omega
  have h3 : (256 : Int) ^ (l.take i).length ≤ 256 ^ 6 := by
    have := Nat.pow_le_pow_right (n := 256) (by decide) h2
    exact_mod_cast this
  exact Int.le_trans h3 (by decide)

theorem or_byte {m : Int} {b : UInt8} (h0 : 0 ≤ m) (h1 : m < 281474976710656) : orI .i64 (m * 256) b.toNat = m * 256 + b.toNat := by
  obtain ⟨k, rfl⟩ := Int.eq_ofNat_of_zero_le h0
  have hb := b.toNat_lt
  unfold orI
  have hw : IntKind.i64.bits = 64 := rfl
  rw [hw]
  have e1 : (BitVec.ofInt 64 ((k : Int) * 256)).toNat = k * 256 := by
    rw [show (k : Int) * 256 = ((k * 256 : Nat) : Int) by simp, BitVec.ofInt_natCast, BitVec.toNat_ofNat]
    exact Nat.mod_eq_of_lt (by omega)
  have e2 : (BitVec.ofInt 64 (b.toNat : Int)).toNat = b.toNat := by
    rw [BitVec.ofInt_natCast, BitVec.toNat_ofNat]
    exact Nat.mod_eq_of_lt (by omega)
  rw [BitVec.toNat_or, e1, e2]
  have e3 : k * 256 ||| b.toNat = k * 256 + b.toNat := by
    have := Nat.shiftLeft_add_eq_or_of_lt (i := 8) (b := b.toNat) (by omega) k
    rw [Nat.shiftLeft_eq] at this
    exact this.symm
  rw [e3]
  rw [wrap64 (by omega)]
  simp

theorem conv_byte (b : UInt8) : IntKind.i64.wrap (b.toNat : Int) = b.toNat := wrap64 (by have := b.toNat_lt; omega)

def c_l02Of : FSpec := ⟨[(.rd, .str)], [.int .i64], true, fun ps => (nth ps 0).S.length ≤ 7, fun ps => [.int .i64 (numB (nth ps 0).S)], fun _ => []⟩
theorem k_l02Of : FnOk Try.prog 143 c_l02Of := by
  refine fn_mk [0, 2, 3, 4] [.tmp 2] (env_nil (tyTab_ok [])) mixed Try.func143 rfl (by decide) rfl (by decide) rfl ?_
  intro ps hT hpre W hW
  simp only [c_l02Of, TyA, Ty, Tys] at hT hpre
  obtain ⟨_, _, rfl, ⟨l, rfl, hl⟩, rfl⟩ := hT
  simp only [nth_zero, pv_S] at hpre
  refine hW.vc [] _ _ ?_
  simp [-List.getD_eq_getElem?_getD, c_l02Of]
  refine hW.loopS _ _ _ [.sl 3 .dp (.int .i64), .sl 4 .dp (.int .i64)] (fun ys => ∃ i : Nat, ys = [.int .i64 (numB (l.take i)), .int .i64 i] ∧ i ≤ l.length) (fun ys => l.length - (nth ys 1).I.toNat) ?_ ?_
  · simp [-List.getD_eq_getElem?_getD, c_l02Of]
    exact ⟨0, ⟨by simp [numB], rfl⟩, by simp⟩
  · rintro ys ⟨i, rfl, h4⟩
    refine hW.vc [] _ _ ?_
    simp [-List.getD_eq_getElem?_getD, c_l02Of]
    refine fun _ => ⟨fun h6 => ⟨h6, ?_⟩, fun h6 => by rw [List.take_of_length_le h6]⟩
    have h7 := numB_le hpre i
    have h8 := numB_le6 hpre h6
    have h9 := (l.getD i 0).toNat_lt
    rw [conv_byte, wrap64 (n := numB (l.take i) * 256) (by omega), wrap64 (by omega), wrap64 (by omega)]
    exact ⟨⟨i + 1, ⟨(numB_take h6).symm, by omega⟩, by omega⟩, by omega⟩

def c_bigNumber : FSpec := c_l02Of
theorem k_bigNumber : FnOk Try.prog 145 c_bigNumber := by
  refine fn_mk [0, 2, 3, 4, 6, 7] [.tmp 2] (env_nil (tyTab_ok [])) mixed Try.func145 rfl (by decide) rfl (by decide) rfl ?_
  intro ps hT hpre W hW
  simp only [c_bigNumber, TyA, Ty, Tys] at hT hpre
  simp only [c_l02Of, TyA, Ty] at hT hpre
  obtain ⟨_, _, rfl, ⟨l, rfl, hl⟩, rfl⟩ := hT
  simp only [nth_zero, pv_S] at hpre
  refine hW.vc [] _ _ ?_
  simp [-List.getD_eq_getElem?_getD, c_bigNumber, c_l02Of, c_l02Of]
  intro h0
  refine hW.loopS _ _ _ [.sl 3 .dp (.int .i64), .sl 7 .dp (.int .i64)] (fun ys => ∃ i : Nat, ys = [.int .i64 (numB (l.take i)), .int .i64 i] ∧ i ≤ l.length) (fun ys => l.length - (nth ys 1).I.toNat) ?_ ?_
  · simp [-List.getD_eq_getElem?_getD, c_bigNumber, c_l02Of]
    exact ⟨0, ⟨by simp [numB], rfl⟩, by simp⟩
  · rintro ys ⟨i, rfl, h4⟩
    refine hW.vc [] _ _ ?_
    simp [-List.getD_eq_getElem?_getD, c_bigNumber, c_l02Of, c_l02Of]
    refine ⟨fun h6 => ⟨h6, ?_⟩, fun h6 => by rw [List.take_of_length_le h6]⟩
    have h7 := numB_le hpre i
    have h8 := numB_le6 hpre h6
    have h9 := (l.getD i 0).toNat_lt
    rw [conv_byte, show shlI IntKind.i64 (numB (List.take i l)) 8 = IntKind.i64.wrap (numB (l.take i) * 256) from rfl, wrap64 (n := numB (l.take i) * 256) (by omega), wrap64 (by omega), or_byte h8.1 h8.2]
    exact ⟨⟨i + 1, ⟨(numB_take h6).symm, by omega⟩, by omega⟩, by omega⟩

def runeOk (n : Int) : Bool := inB n 0 1114111 && !inB n 55296 57343
def isRuneB (n : Int) : Bool := inB n 32 1114111 && (n != 127) && !inB n 55296 57343
def cellB (r k : Int) : Bool := runeOk r && decide (r ≥ 32) && (r != 127) && inB k 0 127

def c_l03RuneOK : FSpec := ⟨[(.rd, .int .i64)], [.bool], true, fun _ => True, fun ps => [.bool (runeOk (nth ps 0).I)], fun _ => []⟩
theorem k_l03RuneOK : FnOk Try.prog 179 c_l03RuneOK := by
  refine fn_mk [0, 2] [.tmp 2] (env_cons (cs := []) k_l01In (env_nil (tyTab_ok []))) mixed Try.func179 rfl (by decide) rfl (by decide) rfl ?_
  intro ps hT hpre W hW
  simp only [c_l03RuneOK, TyA, Ty, Tys] at hT hpre
  obtain ⟨_, _, rfl, ⟨a, rfl, ha⟩, rfl⟩ := hT
  refine hW.vc [] _ _ ?_
  simp [-List.getD_eq_getElem?_getD, c_l03RuneOK, c_l01In, c_within, c_within]
  rfl

def c_isRune : FSpec := ⟨[(.rd, .int .i64)], [.bool], true, fun _ => True, fun ps => [.bool (isRuneB (nth ps 0).I)], fun _ => []⟩
theorem k_isRune : FnOk Try.prog 168 c_isRune := by
  refine fn_mk [0, 2] [.tmp 2] (env_cons (cs := []) k_within (env_nil (tyTab_ok []))) mixed Try.func168 rfl (by decide) rfl (by decide) rfl ?_
  intro ps hT hpre W hW
  simp only [c_isRune, TyA, Ty, Tys] at hT hpre
  obtain ⟨_, _, rfl, ⟨a, rfl, ha⟩, rfl⟩ := hT
  refine hW.vc [] _ _ ?_
  simp [-List.getD_eq_getElem?_getD, c_isRune, c_within]
  simp only [isRuneB]; congr 2

def c_l04Cell : FSpec := ⟨[(.rd, .agg [.int .i64, .int .i64])], [.bool], true, fun _ => True, fun ps => [.bool (cellB (nth (nth ps 0).A 0).I (nth (nth ps 0).A 1).I)], fun _ => []⟩
theorem k_l04Cell : FnOk Try.prog 163 c_l04Cell := by
  refine fn_mk [0, 1, 2] [.tmp 2] (env_cons (cs := []) k_l01In (env_cons (cs := []) k_l03RuneOK (env_nil (tyTab_ok [])))) mixed Try.func163 rfl (by decide) rfl (by decide) rfl ?_
  intro ps hT hpre W hW
  simp only [c_l04Cell, TyA, Ty, Tys] at hT hpre
  obtain ⟨_, _, rfl, ⟨_, rfl, _, _, rfl, ⟨a, rfl, ha⟩, _, _, rfl, ⟨b, rfl, hb⟩, rfl⟩, rfl⟩ := hT
  refine hW.vc [] _ _ ?_
  simp [-List.getD_eq_getElem?_getD, c_l04Cell, c_l03RuneOK, c_l01In, c_within, c_within]
  simp only [cellB]; congr 2

/-- A row is so many cells of four bytes each. -/
def rowGo : List UInt8 → Bool
  | [] => true
  | a :: b :: c :: d :: l => isRuneB (numB [a, b, c]) && decide (d.toNat ≤ 127) && rowGo l
  | _ => false
def rowB (l : List UInt8) (w : Int) : Bool := decide ((l.length : Int) = 4 * w) && rowGo l

theorem rowGo_step {r : List UInt8} (h : 4 ≤ r.length) : rowGo r = (isRuneB (numB (r.take 3)) && decide ((r.getD 3 0).toNat ≤ 127) && rowGo (r.drop 4)) := by
  match r, h with
  | a :: b :: c :: d :: l, _ => rfl
theorem cell_eq (n : Int) (d : UInt8) : cellB n d.toNat = (isRuneB n && decide (d.toNat ≤ 127)) := by
  rw [Bool.eq_iff_iff]
  simp [cellB, isRuneB, runeOk, inB]
  omega
theorem row_off {l : List UInt8} {n : Nat} (i : Nat) : (l.drop n).getD i 0 = l.getD (n + i) 0 := by
  simp only [List.getD_eq_getElem?_getD, List.getElem?_drop]

def c_isRow : FSpec := ⟨[(.rd, .str), (.rd, .int .i64)], [.bool], true, fun ps => 0 ≤ (nth ps 1).I ∧ (nth ps 1).I ≤ 1000, fun ps => [.bool (rowB (nth ps 0).S (nth ps 1).I)], fun _ => []⟩
theorem k_isRow : FnOk Try.prog 134 c_isRow := by
  refine fn_mk [0, 1, 4] [.tmp 4] (env_cons (cs := []) k_isRune (env_cons (cs := []) k_bigNumber (env_nil (tyTab_ok [])))) mixed Try.func134 rfl (by decide) rfl (by decide) rfl ?_
  intro ps hT hpre W hW
  simp only [c_isRow, TyA, Ty, Tys] at hT hpre
  obtain ⟨_, _, rfl, ⟨l, rfl, hl⟩, _, _, rfl, ⟨w, rfl, hw⟩, rfl⟩ := hT
  simp only [nth_zero, nth_succ, pv_S, pv_I] at hpre
  refine hW.vc [] _ _ ?_
  simp [-List.getD_eq_getElem?_getD, c_isRow, c_bigNumber, c_isRune, c_l02Of]
  intro h1
  rw [wrap64 (by omega)]
  refine ⟨fun h => by simp [rowB, h], fun h => ?_⟩
  refine hW.loopS _ _ _ [.sl 0 .dp .str] (fun ys => ∃ r, ys = [.str r] ∧ (∃ k, r.length = 4 * k) ∧ r.length ≤ l.length ∧ rowB l w = rowGo r) (fun ys => (nth ys 0).S.length) ?_ ?_
  · simp [-List.getD_eq_getElem?_getD, c_isRow, c_bigNumber, c_isRune, c_l02Of]
    exact ⟨⟨w.toNat, by omega⟩, by simp [rowB, h]⟩
  · rintro ys ⟨r, rfl, ⟨k, hk⟩, h2, h3⟩
    refine hW.vc [] _ _ ?_
    simp [-List.getD_eq_getElem?_getD, c_isRow, c_bigNumber, c_isRune, c_l02Of]
    refine ⟨fun h4 => ?_, fun h4 => by rw [h3, h4]; rfl⟩
    have h5 : r.length ≠ 0 := fun e => h4 (List.eq_nil_of_length_eq_zero e)
    have h6 : 4 ≤ r.length := by omega
    rw [rowGo_step h6] at h3
    refine ⟨by omega, by omega, fun h7 => ⟨h7, by omega⟩, fun h7 => ?_, fun h7 h8 => ⟨by omega, ⟨⟨k - 1, by omega⟩, by omega, ?_⟩, by omega⟩⟩
    · rw [h3]
      rcases h7 with h7 | h7
      · simp [h7]
      · have : ¬ (r.getD 3 0).toNat ≤ 127 := by omega
        simp only [this, decide_false, Bool.and_false, Bool.false_and]
    · have : (r.getD 3 0).toNat ≤ 127 := by omega
      rw [h3, h7, List.take_of_length_le (by simp)]
      simp only [this, decide_true, Bool.and_true, Bool.true_and]

def c_l11Row : FSpec := ⟨[(.rd, .int .i64), (.rd, .str)], [.bool], true, fun ps => 0 ≤ (nth ps 0).I ∧ (nth ps 0).I ≤ 1000, fun ps => [.bool (rowB (nth ps 1).S (nth ps 0).I)], fun _ => []⟩
theorem k_l11Row : FnOk Try.prog 127 c_l11Row := by
  refine fn_mk [0, 1, 4, 5] [.tmp 4] (env_cons (cs := []) k_l04Cell (env_cons (cs := []) k_l02Of (env_nil (tyTab_ok [])))) mixed Try.func127 rfl (by decide) rfl (by decide) rfl ?_
  intro ps hT hpre W hW
  simp only [c_l11Row, TyA, Ty, Tys] at hT hpre
  obtain ⟨_, _, rfl, ⟨w, rfl, hw⟩, _, _, rfl, ⟨l, rfl, hl⟩, rfl⟩ := hT
  simp only [nth_zero, nth_succ, pv_S, pv_I] at hpre
  refine hW.vc [(6, [], .take 0 <| .take 1 <| .take 2 <| .take 3 <| .take 4 <| .take 5 <| .take 6 <| .take 8 <| .take 9 <| .take 10 <| .take 11 <| .take 12 <| .take 13 <| .alt 7 (.take 14 <| .alt 15 (.take 16 <| .done) .stop) .stop)] _ _ ?_
  simp [-List.getD_eq_getElem?_getD, c_l11Row, c_l02Of, c_l04Cell]
  intro h1
  rw [wrap64 (by omega)]
  refine ⟨fun h => by simp [rowB, h], fun h => ?_⟩
  refine hW.loopS _ _ _ [.sl 5 .dp (.int .i64)] (fun ys => ∃ x : Nat, ys = [.int .i64 x] ∧ (x : Int) ≤ w ∧ rowB l w = rowGo (l.drop (4 * x))) (fun ys => (w - (nth ys 0).I).toNat) ?_ ?_
  · simp [-List.getD_eq_getElem?_getD, c_l11Row, c_l02Of, c_l04Cell]
    exact ⟨0, rfl, by omega, by simp [rowB, h]⟩
  · rintro ys ⟨x, rfl, h2, h3⟩
    refine hW.vc [(6, [], .take 0 <| .take 1 <| .take 2 <| .take 3 <| .take 4 <| .take 5 <| .take 6 <| .take 8 <| .take 9 <| .take 10 <| .take 11 <| .take 12 <| .take 13 <| .alt 7 (.take 14 <| .alt 15 (.take 16 <| .done) .stop) .stop)] _ _ ?_
    simp [-List.getD_eq_getElem?_getD, c_l11Row, c_l02Of, c_l04Cell]
    refine ⟨fun h4 => ⟨by decide +kernel, ?_⟩, fun h4 => ?_⟩
    · rw [wrap64 (n := 4 * (x : Int)) (by omega), wrap64 (n := 4 * (x : Int) + 3) (by omega), conv_byte, cell_eq]
      have e1 : (4 * (x : Int)).toNat = 4 * x := by omega
      have e2 : (4 * (x : Int) + 3).toNat = 4 * x + 3 := by omega
      have e3 : 4 * x + 3 - 4 * x = 3 := by omega
      rw [e1, e2, e3]
      have h5 : 4 ≤ (l.drop (4 * x)).length := by simp; omega
      rw [rowGo_step h5, row_off, List.drop_drop] at h3
      rw [wrap64 (by omega)]
      refine ⟨⟨by omega, by omega, by omega⟩, ⟨by omega, by omega⟩, by omega, fun h6 => by rw [h3, h6]; rfl, fun h6 => ⟨⟨x + 1, by omega, by omega, ?_⟩, by omega⟩⟩
      rw [h3, h6, Bool.true_and, Nat.mul_add]
    · rw [h3, List.drop_eq_nil_of_le (by omega)]; rfl

end Go.Proofs.Ytmjjdfhpnckacab
end

section
namespace Go.Proofs.Ytmjjdfhpnckacab
set_option maxRecDepth 100000
set_option linter.unusedSimpArgs false

def rowsB (es : List PV) (w h : Int) : Bool := decide ((es.length : Int) = h) && es.all fun e => rowB e.S w
/-- The first place from i on. -/
def idxGo (p : PV → Bool) (i : Nat) : List PV → Int
  | [] => -1
  | e :: es => if p e then (i : Int) else idxGo p (i + 1) es
theorem idxGo_any (p : PV → Bool) : ∀ (es : List PV) (i : Nat), decide (0 ≤ idxGo p i es) = es.any p
  | [], i => by simp [idxGo]
  | e :: es, i => by
    simp only [idxGo, List.any_cons]
    by_cases h : p e = true
    · simp [h]
    · simp [h, idxGo_any p es (i + 1)]

def wOk (w : Int) : Prop := 0 ≤ w ∧ w ≤ 1000

def c_areRows1 : FSpec := ⟨[(.rd, .str), (.rd, .box [.int .i64])], [.bool], true, fun ps => wOk (nth (nth ps 1).A 0).I, fun ps => [.bool (!rowB (nth ps 0).S (nth (nth ps 1).A 0).I)], fun _ => []⟩
def c_areRows : FSpec := ⟨[(.rd, .list .str), (.rd, .int .i64), (.rd, .int .i64)], [.bool], true, fun ps => wOk (nth ps 1).I, fun ps => [.bool (rowsB (nth ps 0).L (nth ps 1).I (nth ps 2).I)], fun _ => []⟩
theorem rowsB_len {es : List PV} {w h : Int} (hl : (es.length : Int) ≠ h) : rowsB es w h = false := by simp [rowsB, hl]

def c_l11Rows : FSpec := ⟨[(.rd, .int .i64), (.rd, .int .i64), (.rd, .list .str)], [.bool], true, fun ps => wOk (nth ps 0).I, fun ps => [.bool (rowsB (nth ps 2).L (nth ps 0).I (nth ps 1).I)], fun _ => []⟩
theorem k_l11Rows : FnOk Try.prog 83 c_l11Rows := by
  refine fn_mk [0, 1, 2, 6, 7] [.tmp 6] (env_cons (cs := []) k_l11Row (env_nil (tyTab_ok []))) mixed Try.func83 rfl (by decide) rfl (by decide) rfl ?_
  intro ps hT hpre W hW
  simp only [c_l11Rows, TyA, Ty, Tys] at hT hpre
  obtain ⟨_, _, rfl, ⟨w, rfl, hw⟩, _, _, rfl, ⟨h, rfl, hh⟩, _, _, rfl, ⟨es, rfl, he, hes⟩, rfl⟩ := hT
  simp only [nth_zero, nth_succ, pv_S, pv_I, pv_A] at hpre
  refine hW.vc [] _ _ ?_
  simp [-List.getD_eq_getElem?_getD, c_l11Rows, c_l11Row]
  refine fun h1 => ⟨fun h2 => rowsB_len h2, fun h2 => ?_⟩
  refine hW.loopS _ _ _ [.sl 7 .dp (.int .i64)] (fun ys => ∃ i : Nat, ys = [.int .i64 i] ∧ i ≤ es.length ∧ rowsB es w h = (es.drop i).all fun e => rowB e.S w) (fun ys => es.length - (nth ys 0).I.toNat) ?_ ?_
  · simp [-List.getD_eq_getElem?_getD, c_l11Rows, c_l11Row]
    exact ⟨0, rfl, by simp, by simp [rowsB, h2]⟩
  · rintro ys ⟨i, rfl, h3, h4⟩
    refine hW.vc [] _ _ ?_
    simp [-List.getD_eq_getElem?_getD, c_l11Rows, c_l11Row]
    refine ⟨fun h5 => ⟨by omega, fun _ => ⟨hpre, fun h6 => ?_, fun h6 => ?_⟩⟩, fun h5 => ?_⟩
    · rw [h4, drop_nth (by omega)]; simp [h6]
    · rw [wrap64 (by omega)]
      refine ⟨⟨i + 1, by omega, by omega, ?_⟩, by omega⟩
      rw [h4, drop_nth (by omega)]; simp [h6]
    · rw [h4, List.drop_eq_nil_of_le (by omega)]; rfl

def mirB (m : List PV) : Bool := if (nth m 0).I = -1 then decide ((nth m 1).I = 0) && decide ((nth m 2).I = 0) && decide ((nth m 3).L.length = 0) else inB (nth m 0).I 0 60 && sizeB (nth m 1).I (nth m 2).I && rowsB (nth m 3).L (nth m 1).I (nth m 2).I

theorem size_wOk {w h : Int} (hs : sizeB w h = true) : wOk w := by
  simp [sizeB, inB] at hs; unfold wOk; omega
theorem mir_fin {n w h : Int} {es : List PV} : (n = -1 → (w = 0 → h = 0 → es.length ≤ 140737488355328) → (decide (w = 0) && decide (h = 0) && (es.length : Int) == 0) = mirB [PV.int .i64 n, PV.int .i64 w, PV.int .i64 h, PV.list es]) ∧
    (¬n = -1 → (inB n 0 60 = true → sizeB w h = true → wOk w) ∧ (inB n 0 60 && sizeB w h && rowsB es w h) = mirB [PV.int .i64 n, PV.int .i64 w, PV.int .i64 h, PV.list es]) := by
  refine ⟨fun h1 _ => ?_, fun h1 => ⟨fun _ h2 => size_wOk h2, ?_⟩⟩
  · simp only [mirB, nth_zero, nth_succ, pv_I, pv_L, h1, if_true]
    congr 1
    rw [Bool.eq_iff_iff]; simp
  · simp [mirB, nth_zero, nth_succ, pv_I, pv_L, h1]

def c_isNumber : FSpec := ⟨[(.rd, .int .i64)], [.bool], true, fun _ => True, fun ps => [.bool (inB (nth ps 0).I 0 60)], fun _ => []⟩
theorem k_isNumber : FnOk Try.prog 132 c_isNumber := by
  refine fn_mk [0, 2] [.tmp 2] (env_cons (cs := []) k_within (env_nil (tyTab_ok []))) mixed Try.func132 rfl (by decide) rfl (by decide) rfl ?_
  intro ps hT hpre W hW
  simp only [c_isNumber, TyA, Ty, Tys] at hT hpre
  obtain ⟨_, _, rfl, ⟨a, rfl, ha⟩, rfl⟩ := hT
  refine hW.vc [] _ _ ?_
  simp [-List.getD_eq_getElem?_getD, c_isNumber, c_within]

def c_isMirror : FSpec := ⟨[(.rd, .agg [.int .i64, .int .i64, .int .i64, .list .str])], [.bool], true, fun _ => True, fun ps => [.bool (mirB (nth ps 0).A)], fun _ => []⟩
def c_MirrorOK : FSpec := c_isMirror
def c_sMirrorOK : FSpec := c_isMirror
end Go.Proofs.Ytmjjdfhpnckacab
end

section
namespace Go.Proofs.Ytmjjdfhpnckacab
set_option maxRecDepth 100000
set_option linter.unusedSimpArgs false

theorem szGo_le : ∀ {es : List PV} {l : Int}, 0 ≤ l → szGo l es ≤ l ∧ (-1 ≤ szGo l es)
  | [], l, h => ⟨Int.le_refl _, by simp [szGo]; omega⟩
  | e :: es, l, h => by
    simp only [szGo]
    split
    · exact ⟨by omega, by omega⟩
    · have := szGo_le (es := es) (l := l - e.S.length) (by omega)
      omega
theorem szStr_le {es : List PV} {l : Int} (h : 0 ≤ l) : szStr es l ≤ l ∧ -1 ≤ szStr es l ∧ (0 ≤ szStr es l → (es.length : Int) ≤ l) := by
  unfold szStr
  split
  · omega
  · have := szGo_le (es := es) (l := l - es.length) (by omega)
    omega

theorem eqL_refl {f : PV → PV → Bool} (hf : ∀ x, f x x = true) : ∀ {es : List PV}, eqL f es es = true
  | [] => rfl
  | e :: es => by simp [eqL, hf, eqL_refl hf (es := es)]

def c_szMirror : FSpec := ⟨[(.rd, .agg [.int .i64, .int .i64, .int .i64, .list .str]), (.rd, .int .i64)], [.int .i64], true, fun ps => 0 ≤ (nth ps 1).I, fun ps => [.int .i64 (szStr (nth (nth ps 0).A 3).L (nth ps 1).I)], fun _ => []⟩
def c_toMirror : FSpec := ⟨[(.rd, .agg [.int .i64, .int .i64, .int .i64, .list .str])], [.agg [.int .i64, .int .i64, .int .i64, .list .str]], true, fun ps => (nth (nth ps 0).A 3).L.length ≤ 1048576, fun ps => [nth ps 0], fun _ => []⟩
def eqMir (a b : List PV) : Bool := (nth a 0).I == (nth b 0).I && (nth a 1).I == (nth b 1).I && (nth a 2).I == (nth b 2).I && eqL (fun x y => x.S == y.S) (nth a 3).L (nth b 3).L
def c_eqMirror : FSpec := ⟨[(.rd, .agg [.int .i64, .int .i64, .int .i64, .list .str]), (.rd, .agg [.int .i64, .int .i64, .int .i64, .list .str])], [.bool], true, fun _ => True, fun ps => [.bool (eqMir (nth ps 0).A (nth ps 1).A)], fun _ => []⟩
def c_exMirrorOK : FSpec := ⟨[(.rd, .agg [.int .i64, .int .i64, .int .i64, .list .str])], [.bool], true, fun _ => True, fun _ => [.bool true], fun _ => []⟩
end Go.Proofs.Ytmjjdfhpnckacab
end

section
namespace Go.Proofs.Ytmjjdfhpnckacab
set_option maxRecDepth 100000
set_option linter.unusedSimpArgs false

/-- What is left behind some sizes. -/
def szG (f : PV → Int) (l : Int) : List PV → Int
  | [] => l
  | e :: es => if l - f e < 0 then -1 else szG f (l - f e) es
theorem szG_le {f : PV → Int} (hf : ∀ e, 0 ≤ f e) : ∀ {es : List PV} {l : Int}, 0 ≤ l → szG f l es ≤ l ∧ -1 ≤ szG f l es
  | [], l, h => ⟨Int.le_refl _, by simp [szG]; omega⟩
  | e :: es, l, h => by
    have := hf e
    simp only [szG]
    split
    · exact ⟨by omega, by omega⟩
    · have := szG_le hf (es := es) (l := l - f e) (by omega)
      omega
def szGs (f : PV → Int) (es : List PV) (l : Int) : Int := if l - es.length < 0 then -1 else szG f (l - es.length) es
theorem szGs_le {f : PV → Int} (hf : ∀ e, 0 ≤ f e) {es : List PV} {l : Int} (h : 0 ≤ l) : szGs f es l ≤ l ∧ -1 ≤ szGs f es l ∧ (0 ≤ szGs f es l → (es.length : Int) ≤ l) := by
  unfold szGs
  split
  · omega
  · have := szG_le hf (es := es) (l := l - es.length) (by omega)
    omega

def szR1 (l n : Int) : Int := if l - n < 0 then -1 else l - n
def rowLen (e : PV) : Int := (nth e.A 1).S.length
theorem rowLen_nn (e : PV) : 0 ≤ rowLen e := by unfold rowLen; omega

def c_szRow : FSpec := ⟨[(.rd, .agg [.int .i64, .str]), (.rd, .int .i64)], [.int .i64], true, fun ps => 0 ≤ (nth ps 1).I, fun ps => [.int .i64 (szR1 (nth ps 1).I (nth (nth ps 0).A 1).S.length)], fun _ => []⟩
def c_szRowS : FSpec := ⟨[(.rd, .list (.agg [.int .i64, .str])), (.rd, .int .i64)], [.int .i64], true, fun ps => 0 ≤ (nth ps 1).I, fun ps => [.int .i64 (szGs rowLen (nth ps 0).L (nth ps 1).I)], fun _ => []⟩
def c_szView : FSpec := ⟨[(.rd, .agg [.int .i64, .int .i64, .bool, .int .i64, .int .i64, .list (.agg [.int .i64, .str])]), (.rd, .int .i64)], [.int .i64], true, fun ps => 0 ≤ (nth ps 1).I, fun ps => [.int .i64 (szGs rowLen (nth (nth ps 0).A 5).L (nth ps 1).I)], fun _ => []⟩
def c_toRow : FSpec := ⟨[(.rd, .agg [.int .i64, .str])], [.agg [.int .i64, .str]], true, fun _ => True, fun ps => [nth ps 0], fun _ => []⟩
theorem row_eta {e : PV} (h : ∃ qs, e = .agg qs ∧ ∃ p r, qs = p :: r ∧ (∃ n, p = .int .i64 n ∧ inR .i64 n) ∧ ∃ p r', r = p :: r' ∧ (∃ l, p = .str l ∧ l.length ≤ LIM) ∧ r' = []) : PV.agg [.int .i64 (nth e.A 0).I, .str (nth e.A 1).S] = e := by
  obtain ⟨_, rfl, _, _, rfl, ⟨n, rfl, _⟩, _, _, rfl, ⟨l, rfl, _⟩, rfl⟩ := h
  rfl

def c_toRowS : FSpec := ⟨[(.rd, .list (.agg [.int .i64, .str]))], [.list (.agg [.int .i64, .str])], true, fun ps => (nth ps 0).L.length ≤ 1048576, fun ps => [.list (nth ps 0).L], fun _ => []⟩
def c_toView : FSpec := ⟨[(.rd, .agg [.int .i64, .int .i64, .bool, .int .i64, .int .i64, .list (.agg [.int .i64, .str])])], [.agg [.int .i64, .int .i64, .bool, .int .i64, .int .i64, .list (.agg [.int .i64, .str])]], true, fun ps => (nth (nth ps 0).A 5).L.length ≤ 1048576, fun ps => [nth ps 0], fun _ => []⟩
def eqRow1 (a b : List PV) : Bool := (nth a 0).I == (nth b 0).I && (nth a 1).S == (nth b 1).S
def eqRow2 (a b : PV) : Bool := eqRow1 a.A b.A
theorem eqRow2_refl (a : PV) : eqRow2 a a = true := by simp [eqRow2, eqRow1]
def c_eqRow : FSpec := ⟨[(.rd, .agg [.int .i64, .str]), (.rd, .agg [.int .i64, .str])], [.bool], true, fun _ => True, fun ps => [.bool (eqRow1 (nth ps 0).A (nth ps 1).A)], fun _ => []⟩
theorem k_eqRow : FnOk Try.prog 96 c_eqRow := by
  refine fn_mk [0, 1, 2, 3, 4] [.tmp 4] (env_nil (tyTab_ok [])) mixed Try.func96 rfl (by decide) rfl (by decide) rfl ?_
  intro ps hT hpre W hW
  simp only [c_eqRow, TyA, Ty, Tys] at hT hpre
  obtain ⟨_, _, rfl, ⟨_, rfl, _, _, rfl, ⟨y, rfl, hy⟩, _, _, rfl, ⟨c, rfl, hc⟩, rfl⟩, _, _, rfl, ⟨_, rfl, _, _, rfl, ⟨y', rfl, hy'⟩, _, _, rfl, ⟨c', rfl, hc'⟩, rfl⟩, rfl⟩ := hT
  refine hW.vc [] _ _ ?_
  simp [-List.getD_eq_getElem?_getD, c_eqRow]
  simp only [eqRow1, nth_zero, nth_succ, pv_I, pv_S]
  refine ⟨fun h1 => by simp [h1], fun h1 => ⟨fun h2 => by simp [h2], fun h2 => by simp [h1, h2]⟩⟩

def c_eqRowS : FSpec := ⟨[(.rd, .list (.agg [.int .i64, .str])), (.rd, .list (.agg [.int .i64, .str]))], [.bool], true, fun _ => True, fun ps => [.bool (eqL eqRow2 (nth ps 0).L (nth ps 1).L)], fun _ => []⟩
theorem k_eqRowS : FnOk Try.prog 50 c_eqRowS := by
  refine fn_mk [0, 1, 4, 5] [.tmp 4] (env_cons (cs := []) k_eqRow (env_nil (tyTab_ok []))) mixed Try.func50 rfl (by decide) rfl (by decide) rfl ?_
  intro ps hT hpre W hW
  simp only [c_eqRowS, TyA, Ty, Tys] at hT hpre
  obtain ⟨_, _, rfl, ⟨es, rfl, hes, tes⟩, _, _, rfl, ⟨es2, rfl, hes2, tes2⟩, rfl⟩ := hT
  refine hW.vc [(6, [], .take 0 <| .take 1 <| .take 2 <| .take 3 <| .take 4 <| .take 5 <| .take 6 <| .take 7 <| .alt 8 (.take 9 <| .done) .stop)] _ _ ?_
  simp [-List.getD_eq_getElem?_getD, c_eqRowS, c_eqRow]
  refine fun h1 h2 => ⟨fun h3 => eqL_len (by omega), fun h3 => ?_⟩
  refine hW.loopS _ _ _ [.sl 5 .dp (.int .i64)] (fun ys => ∃ i : Nat, ys = [.int .i64 i] ∧ i ≤ es.length ∧ eqL eqRow2 es es2 = eqL eqRow2 (es.drop i) (es2.drop i)) (fun ys => es.length - (nth ys 0).I.toNat) ?_ ?_
  · simp [-List.getD_eq_getElem?_getD, c_eqRowS, c_eqRow]
    exact ⟨0, rfl, by simp, by simp⟩
  · rintro ys ⟨i, rfl, h4, h5⟩
    refine hW.vc [(6, [], .take 0 <| .take 1 <| .take 2 <| .take 3 <| .take 4 <| .take 5 <| .take 6 <| .take 7 <| .alt 8 (.take 9 <| .done) .stop)] _ _ ?_
    simp [-List.getD_eq_getElem?_getD, c_eqRowS, c_eqRow]
    refine fun _ => ⟨fun h6 => ⟨by decide +kernel, h6, fun _ _ _ => ⟨by omega, fun _ _ _ => ?_⟩⟩, fun h6 => ?_⟩
    · rw [drop_nth h6, drop_nth (by omega : i < es2.length), eqL] at h5
      have h8 : eqRow1 [PV.int IntKind.i64 (nth (nth es i).A 0).I, PV.str (nth (nth es i).A 1).S] [PV.int IntKind.i64 (nth (nth es2 i).A 0).I, PV.str (nth (nth es2 i).A 1).S] = eqRow2 (nth es i) (nth es2 i) := rfl
      rw [wrap64 (by omega), h8]
      refine ⟨fun h7 => by rw [h5]; simp [h7], fun h7 => ⟨⟨i + 1, by omega, by omega, by rw [h5]; simp [h7]⟩, by omega⟩⟩
    · rw [h5, List.drop_eq_nil_of_le h6, List.drop_eq_nil_of_le (by omega)]; rfl

def eqVw (a b : List PV) : Bool := (nth a 0).I == (nth b 0).I && (nth a 1).I == (nth b 1).I && (nth a 2).B == (nth b 2).B && (nth a 3).I == (nth b 3).I && (nth a 4).I == (nth b 4).I && eqL eqRow2 (nth a 5).L (nth b 5).L
def c_eqView : FSpec := ⟨[(.rd, .agg [.int .i64, .int .i64, .bool, .int .i64, .int .i64, .list (.agg [.int .i64, .str])]), (.rd, .agg [.int .i64, .int .i64, .bool, .int .i64, .int .i64, .list (.agg [.int .i64, .str])])], [.bool], true, fun _ => True, fun ps => [.bool (eqVw (nth ps 0).A (nth ps 1).A)], fun _ => []⟩
theorem k_eqView : FnOk Try.prog 11 c_eqView := by
  refine fn_mk [0, 1, 2, 3, 4] [.tmp 4] (env_cons (cs := []) k_eqRowS (env_nil (tyTab_ok []))) mixed Try.func11 rfl (by decide) rfl (by decide) rfl ?_
  intro ps hT hpre W hW
  simp only [c_eqView, TyA, Ty, Tys] at hT hpre
  obtain ⟨_, _, rfl, ⟨_, rfl, _, _, rfl, ⟨n, rfl, hn⟩, _, _, rfl, ⟨f, rfl, hf⟩, _, _, rfl, ⟨u, rfl⟩, _, _, rfl, ⟨w, rfl, hw⟩, _, _, rfl, ⟨h, rfl, hh⟩, _, _, rfl, ⟨es, rfl, hes, tes⟩, rfl⟩, _, _, rfl, ⟨_, rfl, _, _, rfl, ⟨n', rfl, hn'⟩, _, _, rfl, ⟨f', rfl, hf'⟩, _, _, rfl, ⟨u', rfl⟩, _, _, rfl, ⟨w', rfl, hw'⟩, _, _, rfl, ⟨h', rfl, hh'⟩, _, _, rfl, ⟨es', rfl, hes', tes'⟩, rfl⟩, rfl⟩ := hT
  refine hW.vc [] _ _ ?_
  simp [-List.getD_eq_getElem?_getD, c_eqView, c_eqRowS]
  simp only [eqVw, nth_zero, nth_succ, pv_I, pv_B, pv_L]
  exact ⟨fun q1 => by simp [q1], fun q1 => ⟨fun q2 => by simp [q2], fun q2 => ⟨fun q3 => by simp [q3], fun q3 => ⟨fun q4 => by simp [q4], fun q4 => ⟨fun q5 => by simp [q5], fun q5 => ⟨fun q6 => by simp [q6], fun q6 => by simp [q1, q2, q3, q4, q5, q6]⟩⟩⟩⟩⟩⟩

/-- Rows that rise, each of all its cells. -/
def upB (w h : Int) (p : Int) : List PV → Bool
  | [] => true
  | e :: es => inB (nth e.A 0).I 0 (h - 1) && decide (p < (nth e.A 0).I) && rowB (nth e.A 1).S w && upB w h (nth e.A 0).I es
def leB (a b : Int) : Bool := decide (a ≤ b)
def selB (c a b : Bool) : Bool := (c && a) || (!c && b)
def viewB (v : List PV) : Bool :=
  inB (nth v 0).I 0 60 && sizeB (nth v 3).I (nth v 4).I && leB (nth v 5).L.length (nth v 4).I && upB (nth v 3).I (nth v 4).I (-1) (nth v 5).L &&
    selB (nth v 2).B ((nth v 1).I == 0 && ((nth v 5).L.length : Int) == (nth v 4).I) (inB (nth v 1).I 0 ((nth v 0).I - 1))
/-- The row ahead of place i. -/
def pvY (es : List PV) (i : Nat) : Int := if i = 0 then -1 else (nth (nth es (i - 1)).A 0).I

theorem view_no {n f w h : Int} {u : Bool} {es : List PV} (h2 : (inB n 0 60 = false ∨ sizeB w h = false) ∨ h < es.length) : viewB [.int .i64 n, .int .i64 f, .bool u, .int .i64 w, .int .i64 h, .list es] = false := by
  simp only [viewB, nth_zero, nth_succ, pv_I, pv_L]
  rcases h2 with (h2 | h2) | h2
  · simp [h2]
  · simp [h2]
  · have : ¬ (es.length : Int) ≤ h := by omega
    simp [this, leB]
theorem view_eq {n f w h : Int} {u : Bool} {es : List PV} (h2 : inB n 0 60 = true) (h3 : sizeB w h = true) (h4 : (es.length : Int) ≤ h) : (2 ≤ w ∧ w ≤ 24 ∧ 2 ≤ h ∧ h ≤ 10) ∧
    viewB [.int .i64 n, .int .i64 f, .bool u, .int .i64 w, .int .i64 h, .list es] = (upB w h (-1) es && selB u (f == 0 && (es.length : Int) == h) (inB f 0 (n - 1))) := by
  refine ⟨by simp [sizeB, inB] at h3; omega, ?_⟩
  simp [viewB, nth_zero, nth_succ, pv_I, pv_L, pv_B, h2, h3, h4, leB]
theorem pvY_succ (es : List PV) (i : Nat) : pvY es (i + 1) = (nth (nth es i).A 0).I := by simp [pvY]
theorem pvY_pos {es : List PV} {i : Nat} (h : 0 < i) : pvY es i = (nth (nth es (i - 1)).A 0).I := by rw [pvY, if_neg (by omega)]
theorem pvY_lt {es : List PV} {i : Nat} {y h : Int} (h1 : inB y 0 h = true) (h2 : 0 < i → (nth (nth es (i - 1)).A 0).I < y) : pvY es i < y := by
  by_cases h0 : 0 < i
  · rw [pvY_pos h0]; exact h2 h0
  · have : pvY es i = -1 := by rw [pvY, if_pos (by omega)]
    rw [this]
    simp [inB] at h1; omega

def c_isView : FSpec := ⟨[(.rd, .agg [.int .i64, .int .i64, .bool, .int .i64, .int .i64, .list (.agg [.int .i64, .str])])], [.bool], true, fun _ => True, fun ps => [.bool (viewB (nth ps 0).A)], fun _ => []⟩
theorem k_isView : FnOk Try.prog 86 c_isView := by
  refine fn_mk [0, 1, 2, 3, 4, 26, 27, 28] [.tmp 2] (env_cons (cs := []) k_isRow (env_cons (cs := []) k_within (env_cons (cs := []) k_isSize (env_cons (cs := []) k_isNumber (env_nil (tyTab_ok [])))))) mixed Try.func86 rfl (by decide) rfl (by decide) rfl ?_
  intro ps hT hpre W hW
  simp only [c_isView, TyA, Ty, Tys] at hT hpre
  obtain ⟨_, _, rfl, ⟨_, rfl, _, _, rfl, ⟨n, rfl, hn⟩, _, _, rfl, ⟨f, rfl, hf⟩, _, _, rfl, ⟨u, rfl⟩, _, _, rfl, ⟨w, rfl, hw⟩, _, _, rfl, ⟨h, rfl, hh⟩, _, _, rfl, ⟨es, rfl, hes, tes⟩, rfl⟩, rfl⟩ := hT
  refine hW.vc [(6, [], .take 0 <| .take 1 <| .take 2 <| .take 3 <| .take 4 <| .alt 5 (.take 6 <| .take 7 <| .take 8 <| .take 9 <| .take 10 <| .take 11 <| .take 12 <| .take 13 <| .take 14 <| .take 15 <| .take 16 <| .take 17 <| .take 18 <| .take 19 <| .take 20 <| .take 21 <| .take 22 <| .take 23 <| .take 24 <| .take 25 <| .take 26 <| .take 27 <| .alt 28 (.take 29 <| .take 30 <| .done) .stop) .stop)] _ _ ?_
  simp [-List.getD_eq_getElem?_getD, c_isView, c_isNumber, c_isSize, c_within, c_isRow]
  intro h1
  refine ⟨view_no, fun h2 h3 h4 h5 => ?_⟩
  obtain ⟨h6, h7⟩ := view_eq (u := u) (f := f) h2 h3 h4
  refine hW.loopS _ _ _ [.sl 28 .dp (.int .i64)] (fun ys => ∃ i : Nat, ys = [.int .i64 i] ∧ i ≤ es.length ∧ upB w h (-1) es = upB w h (pvY es i) (es.drop i)) (fun ys => es.length - (nth ys 0).I.toNat) ?_ ?_
  · simp [-List.getD_eq_getElem?_getD, c_isView, c_isNumber, c_isSize, c_within, c_isRow]
    exact ⟨0, rfl, by simp, by simp [pvY]⟩
  · rintro ys ⟨i, rfl, g1, g2⟩
    refine hW.vc [(6, [], .take 0 <| .take 1 <| .take 2 <| .take 3 <| .take 4 <| .alt 5 (.take 6 <| .take 7 <| .take 8 <| .take 9 <| .take 10 <| .take 11 <| .take 12 <| .take 13 <| .take 14 <| .take 15 <| .take 16 <| .take 17 <| .take 18 <| .take 19 <| .take 20 <| .take 21 <| .take 22 <| .take 23 <| .take 24 <| .take 25 <| .take 26 <| .take 27 <| .alt 28 (.take 29 <| .take 30 <| .done) .stop) .stop)] _ _ ?_
    simp [-List.getD_eq_getElem?_getD, c_isView, c_isNumber, c_isSize, c_within, c_isRow]
    have k1 : IntKind.i64.wrap (h - 1) = h - 1 := wrap64 (by omega)
    simp only [k1]
    have k2 : 0 < i → (IntKind.i64.wrap ((i : Int) - 1)).toNat = i - 1 := fun h => by rw [wrap64 (by omega)]; omega
    have k3 : 0 < i → IntKind.i64.wrap ((i : Int) - 1) = i - 1 := fun h => wrap64 (by omega)
    refine ⟨fun g3 => ⟨g3, fun _ _ _ => ⟨by decide +kernel, fun g4 g5 => ⟨⟨g4, g5⟩, by rw [k3 g5]; omega⟩, fun g4 g5 => ⟨⟨g4, g5⟩, by rw [k2 g5]; omega⟩, fun _ => ⟨fun g4 => ⟨g4, fun g5 => ⟨g4, g5⟩⟩, fun _ _ => by omega, ?_⟩⟩⟩, ?_⟩
    · rw [drop_nth g3, upB] at g2
      have k4 : 0 < i → pvY es i = (nth (nth es (i - 1)).A 0).I := fun h => by rw [pvY, if_neg (by omega)]
      refine ⟨fun g4 => ?_, fun g4 g5 g6 => ?_⟩
      · rw [h7, g2]
        rcases g4 with (g4 | ⟨g4, g5⟩) | g4
        · simp [g4]
        · rw [k2 g4] at g5
          have : ¬ pvY es i < (nth (nth es i).A 0).I := by rw [k4 g4]; omega
          simp [this]
        · simp [g4]
      · rw [wrap64 (by omega)]
        have k5 : pvY es i < (nth (nth es i).A 0).I := by
          by_cases h0 : 0 < i
          · have := g5 h0
            rw [k2 h0] at this
            rw [k4 h0]; exact this
          · have : pvY es i = -1 := by rw [pvY, if_pos (by omega)]
            rw [this]
            simp [inB] at g4; omega
        refine ⟨⟨i + 1, by omega, by omega, ?_⟩, by omega⟩
        have k6 : pvY es (i + 1) = (nth (nth es i).A 0).I := by simp [pvY]
        rw [g2, g4, g6, k6]
        simp [k5]
    · intro g3
      rw [List.drop_eq_nil_of_le g3, upB] at g2
      have k5 : IntKind.i64.wrap (n - 1) = n - 1 := wrap64 (by simp [inB] at h2; omega)
      rw [h7, g2, k5]
      refine ⟨fun g4 _ => ?_, fun g4 => ?_⟩
      · subst g4
        rw [Bool.eq_iff_iff]; simp [selB]
      · subst g4
        simp [selB]

def c_iViewOK : FSpec := c_isView
end Go.Proofs.Ytmjjdfhpnckacab
end

section
namespace Go.Proofs.Ytmjjdfhpnckacab
set_option maxRecDepth 100000
set_option linter.unusedSimpArgs false

def c_sViewOK : FSpec := c_isView
theorem k_sViewOK : FnOk Try.prog 88 c_sViewOK := by
  refine fn_mk [0, 1, 2, 3] [.tmp 2] (env_cons (cs := []) k_l11Row (env_cons (cs := []) k_l04Size (env_cons (cs := []) k_l01In (env_nil (tyTab_ok []))))) mixed Try.func88 rfl (by decide) rfl (by decide) rfl ?_
  intro ps hT hpre W hW
  simp only [c_sViewOK, TyA, Ty, Tys] at hT hpre
  simp only [c_isView, TyA, Ty, Tys] at hT
  obtain ⟨_, _, rfl, ⟨_, rfl, _, _, rfl, ⟨n, rfl, hn⟩, _, _, rfl, ⟨f, rfl, hf⟩, _, _, rfl, ⟨u, rfl⟩, _, _, rfl, ⟨w, rfl, hw⟩, _, _, rfl, ⟨h, rfl, hh⟩, _, _, rfl, ⟨es, rfl, hes, tes⟩, rfl⟩, rfl⟩ := hT
  refine hW.vc [(6, [], .take 0 <| .take 1 <| .take 2 <| .take 3 <| .take 4 <| .take 5 <| .take 6 <| .take 7 <| .take 8 <| .alt 9 (.take 10 <| .take 11 <| .take 12 <| .take 13 <| .take 14 <| .take 15 <| .take 16 <| .take 17 <| .take 18 <| .take 19 <| .alt 20 (.take 21 <| .take 22 <| .take 23 <| .take 24 <| .take 25 <| .take 26 <| .take 27 <| .take 28 <| .take 29 <| .take 30 <| .take 31 <| .take 32 <| .take 33 <| .take 34 <| .take 35 <| .take 36 <| .take 37 <| .take 38 <| .take 39 <| .take 40 <| .take 41 <| .take 42 <| .done) .stop) .stop)] _ _ ?_
  simp [-List.getD_eq_getElem?_getD, c_sViewOK, c_l01In, c_l04Size, c_l11Row, c_isView, c_within, c_isSize, c_within]
  intro h1
  refine ⟨view_no, fun h2 h3 h4 => ?_⟩
  obtain ⟨h6, h7⟩ := view_eq (u := u) (f := f) h2 h3 h4
  refine hW.loopS _ _ _ [.sl 3 .dp (.int .i64)] (fun ys => ∃ i : Nat, ys = [.int .i64 i] ∧ i ≤ es.length ∧ upB w h (-1) es = upB w h (pvY es i) (es.drop i)) (fun ys => es.length - (nth ys 0).I.toNat) ?_ ?_
  · simp [-List.getD_eq_getElem?_getD, c_sViewOK, c_l01In, c_l04Size, c_l11Row, c_isView, c_within, c_isSize]
    exact ⟨0, rfl, by simp, by simp [pvY]⟩
  · rintro ys ⟨i, rfl, g1, g2⟩
    refine hW.vc [(6, [], .take 0 <| .take 1 <| .take 2 <| .take 3 <| .take 4 <| .take 5 <| .take 6 <| .take 7 <| .take 8 <| .alt 9 (.take 10 <| .take 11 <| .take 12 <| .take 13 <| .take 14 <| .take 15 <| .take 16 <| .take 17 <| .take 18 <| .take 19 <| .alt 20 (.take 21 <| .take 22 <| .take 23 <| .take 24 <| .take 25 <| .take 26 <| .take 27 <| .take 28 <| .take 29 <| .take 30 <| .take 31 <| .take 32 <| .take 33 <| .take 34 <| .take 35 <| .take 36 <| .take 37 <| .take 38 <| .take 39 <| .take 40 <| .take 41 <| .take 42 <| .done) .stop) .stop)] _ _ ?_
    simp [-List.getD_eq_getElem?_getD, c_sViewOK, c_l01In, c_l04Size, c_l11Row, c_isView, c_within, c_isSize, c_within]
    have k1 : IntKind.i64.wrap (h - 1) = h - 1 := wrap64 (by omega)
    simp only [k1]
    have k2 : 0 < i → (IntKind.i64.wrap ((i : Int) - 1)).toNat = i - 1 := fun h => by rw [wrap64 (by omega)]; omega
    have k3 : 0 < i → IntKind.i64.wrap ((i : Int) - 1) = i - 1 := fun h => wrap64 (by omega)
    refine fun _ => ⟨fun g3 => ⟨by decide +kernel, g3, fun _ => ⟨fun g4 => ⟨g4, g3⟩, fun _ => ⟨fun _ => by omega, fun g4 g5 g6 => ⟨⟨⟨g4, g5⟩, g6⟩, by rw [k3 g6]; omega⟩,
      fun g4 g5 g6 => ⟨⟨⟨g4, g5⟩, g6⟩, by rw [k2 g6]; omega⟩, fun _ => ⟨fun g4 g5 g6 => ⟨⟨⟨g4, g5⟩, g6⟩, g3⟩, fun _ => ⟨fun g4 g5 => ⟨⟨g4, g5⟩, fun g6 => ⟨⟨g4, g5⟩, g6⟩⟩, ?_⟩⟩⟩⟩⟩, ?_⟩
    · rw [drop_nth g3, upB] at g2
      refine ⟨fun g4 => ?_, fun g4 g6 g5 => ?_⟩
      · rw [h7, g2]
        rcases g4 with (g4 | g4) | ⟨g4, g5⟩
        · simp [g4]
        · simp [g4]
        · rw [k2 g4] at g5
          have : ¬ pvY es i < (nth (nth es i).A 0).I := by rw [pvY_pos g4]; omega
          simp [this]
      · rw [wrap64 (by omega)]
        have k5 := pvY_lt g4 fun h0 => by have := g5 h0; rw [k2 h0] at this; exact this
        refine ⟨⟨i + 1, by omega, by omega, ?_⟩, by omega⟩
        rw [g2, g4, g6, pvY_succ]
        simp [k5]
    · intro g3
      rw [List.drop_eq_nil_of_le g3, upB] at g2
      rw [h7, g2]
      refine ⟨fun g4 _ => ?_, fun g4 => ?_⟩
      · subst g4
        rw [Bool.eq_iff_iff]; simp [selB]
      · subst g4
        rw [Bool.eq_iff_iff]
        simp [selB, inB] at h2 ⊢
        omega

theorem eqRows_refl (es : List PV) : eqL eqRow2 es es = true := eqL_refl eqRow2_refl
theorem eqVw_refl (v : List PV) : eqVw v v = true := by simp [eqVw, eqRows_refl]

def c_exViewOK : FSpec := ⟨[(.rd, .agg [.int .i64, .int .i64, .bool, .int .i64, .int .i64, .list (.agg [.int .i64, .str])])], [.bool], true, fun _ => True, fun _ => [.bool true], fun _ => []⟩
def fullGo (i : Nat) : List PV → List PV
  | [] => []
  | e :: es => .agg [.int .i64 i, .str e.S] :: fullGo (i + 1) es
theorem fullGo_len : ∀ (es : List PV) (i : Nat), (fullGo i es).length = es.length
  | [], _ => rfl
  | e :: es, i => by simp [fullGo, fullGo_len es]
theorem fullGo_snoc (x : PV) : ∀ (es : List PV) (i : Nat), fullGo i (es ++ [x]) = fullGo i es ++ [.agg [.int .i64 (i + es.length : Nat), .str x.S]]
  | [], i => by simp [fullGo]
  | e :: es, i => by simp [fullGo, fullGo_snoc x es]; omega

def c_fullView : FSpec := ⟨[(.rd, .int .i64), (.rd, .int .i64), (.rd, .int .i64), (.rd, .list .str)], [.agg [.int .i64, .int .i64, .bool, .int .i64, .int .i64, .list (.agg [.int .i64, .str])]], true, fun ps => (nth ps 3).L.length ≤ 1048576, fun ps => [.agg [.int .i64 (nth ps 0).I, .int .i64 0, .bool true, .int .i64 (nth ps 1).I, .int .i64 (nth ps 2).I, .list (fullGo 0 (nth ps 3).L)]], fun _ => []⟩
def c_l11Full : FSpec := { c_fullView with pre := fun ps => (nth ps 3).L.length ≤ 1048576 ∧ ((nth ps 3).L.length : Int) = (nth ps 2).I }
theorem k_l11Full : FnOk Try.prog 84 c_l11Full := by
  refine fn_mk [0, 1, 2, 3, 8, 9, 10] [.cell 8 25] (env_nil (tyTab_ok [])) mixed Try.func84 rfl (by decide) rfl (by decide) rfl ?_
  intro ps hT hpre W hW
  simp only [c_l11Full, TyA, Ty, Tys] at hT hpre
  simp only [c_fullView, TyA, Ty, Tys] at hT hpre
  obtain ⟨_, _, rfl, ⟨n, rfl, hn⟩, _, _, rfl, ⟨w, rfl, hw⟩, _, _, rfl, ⟨h, rfl, hh⟩, _, _, rfl, ⟨es, rfl, hes, tes⟩, rfl⟩ := hT
  simp only [nth_zero, nth_succ, pv_L, pv_I] at hpre
  obtain ⟨hpre, rfl⟩ := hpre
  refine hW.vc [(5, [9, 11], .take 0 <| .take 1 <| .take 2 <| .take 3 <| .take 4 <| .take 5 <| .take 6 <| .take 7 <| .alt 8 (.alt 9 (.take 10 <| .alt 11 (.done) .stop) .stop) .stop)] _ _ ?_
  simp [-List.getD_eq_getElem?_getD, c_l11Full, c_fullView, c_fullView]
  refine hW.loopS _ _ _ [.bx 9 [.int .i64, .int .i64, .bool, .int .i64, .int .i64, .list (.agg [.int .i64, .str])], .sl 10 .dp (.int .i64)] (fun ys => ∃ (i : Nat), ys = [.agg [.int .i64 n, .int .i64 0, .bool true, .int .i64 w, .int .i64 es.length, .list (fullGo 0 (es.take i))], .int .i64 i] ∧ i ≤ es.length) (fun ys => es.length - (nth ys 1).I.toNat) ?_ ?_
  · simp [-List.getD_eq_getElem?_getD, c_l11Full, c_fullView, c_fullView]
    exact ⟨0, ⟨by simp [fullGo], rfl⟩, by simp⟩
  · rintro ys ⟨i, rfl, g1⟩
    refine hW.vc [(5, [9, 11], .take 0 <| .take 1 <| .take 2 <| .take 3 <| .take 4 <| .take 5 <| .take 6 <| .take 7 <| .alt 8 (.alt 9 (.take 10 <| .alt 11 (.done) .stop) .stop) .stop)] _ _ ?_
    simp [-List.getD_eq_getElem?_getD, c_l11Full, c_fullView, c_fullView]
    refine ⟨fun g2 => ⟨by decide +kernel, g2, fun _ => ⟨by rw [fullGo_len, List.length_take]; omega, fun _ => ⟨⟨i + 1, ⟨?_, by rw [wrap64 (by omega)]; omega⟩, by omega⟩, by rw [wrap64 (by omega)]; omega⟩⟩⟩, fun g2 => by rw [List.take_of_length_le g2]⟩
    rw [take_nth g2, fullGo_snoc, List.length_take, Nat.min_eq_left g1, Nat.zero_add]

/-- A view. -/
structure VW where
  n : Int
  f : Int
  u : Bool
  w : Int
  h : Int
  r : List PV
def VW.pv (v : VW) : PV := .agg [.int .i64 v.n, .int .i64 v.f, .bool v.u, .int .i64 v.w, .int .i64 v.h, .list v.r]
def VW.no : VW := ⟨0, 0, false, 0, 0, []⟩
def fullOf (n w h : Int) (es : List PV) : VW × Int :=
  if 4096 < (es.length : Int) then (VW.no, 2) else if inB n 0 60 = false ∨ sizeB w h = false then (VW.no, 4) else if rowsB es w h = false then (VW.no, 1) else (⟨n, 0, true, w, h, fullGo 0 es⟩, 0)
theorem rowsB_len' {es : List PV} {w h : Int} (hl : rowsB es w h = true) : (es.length : Int) = h := by simp [rowsB] at hl; exact hl.1
theorem not_or_ff {a b : Bool} (ha : a = true) (hb : b = true) : ¬ (a = false ∨ b = false) := by subst ha; subst hb; simp

def c_iFullView : FSpec := ⟨[(.rd, .int .i64), (.rd, .int .i64), (.rd, .int .i64), (.rd, .list .str)], [.agg [.int .i64, .int .i64, .bool, .int .i64, .int .i64, .list (.agg [.int .i64, .str])], .int .i64], true, fun _ => True,
  fun ps => [(fullOf (nth ps 0).I (nth ps 1).I (nth ps 2).I (nth ps 3).L).1.pv, .int .i64 (fullOf (nth ps 0).I (nth ps 1).I (nth ps 2).I (nth ps 3).L).2], fun _ => []⟩
def c_sFullView : FSpec := c_iFullView
theorem k_sFullView : FnOk Try.prog 37 c_sFullView := by
  refine fn_mk [0, 1, 2, 3, 8, 9] [.cell 8 25, .tmp 9] (env_cons (cs := []) k_l11Full (env_cons (cs := []) k_l11Rows (env_cons (cs := []) k_l04Size (env_cons (cs := []) k_l01In (env_nil (tyTab_ok [])))))) mixed Try.func37 rfl (by decide) rfl (by decide) rfl ?_
  intro ps hT hpre W hW
  simp only [c_sFullView, TyA, Ty, Tys] at hT hpre
  simp only [c_iFullView, TyA, Ty, Tys] at hT hpre
  obtain ⟨_, _, rfl, ⟨n, rfl, hn⟩, _, _, rfl, ⟨w, rfl, hw⟩, _, _, rfl, ⟨h, rfl, hh⟩, _, _, rfl, ⟨es, rfl, hes, tes⟩, rfl⟩ := hT
  refine hW.vc [] _ _ ?_
  simp [-List.getD_eq_getElem?_getD, c_sFullView, c_l01In, c_l04Size, c_l11Rows, c_l11Full, c_iFullView, c_within, c_isSize, c_fullView, c_within, c_iFullView, c_fullView, VW.pv]
  refine fun _ => ⟨fun h1 => ?_, fun h1 => ⟨fun h2 => ?_, fun h2 h3 => ⟨size_wOk h3, fun h4 => ?_, fun h4 => ⟨⟨by omega, rowsB_len' h4⟩, ?_⟩⟩⟩⟩
  · rw [fullOf, if_pos h1]; simp [VW.no]
  · rw [fullOf, if_neg (Int.not_lt.2 h1), if_pos h2]; simp [VW.no]
  · rw [fullOf, if_neg (Int.not_lt.2 h1), if_neg (not_or_ff h2 h3), if_pos h4]; simp [VW.no]
  · rw [fullOf, if_neg (Int.not_lt.2 h1), if_neg (not_or_ff h2 h3), if_neg (by simp [h4])]; simp

end Go.Proofs.Ytmjjdfhpnckacab
end

section
namespace Go.Proofs.Ytmjjdfhpnckacab
set_option maxRecDepth 100000
set_option linter.unusedSimpArgs false

def byteOf (x : Int) : UInt8 := UInt8.ofNat (x % 256).toNat
theorem byteOf_nat (x : Int) : ((byteOf x).toNat : Int) = x % 256 := by
  have h1 := Int.emod_nonneg x (show (256 : Int) ≠ 0 by omega)
  have h2 := Int.emod_lt_of_pos x (show (0 : Int) < 256 by omega)
  unfold byteOf
  rw [UInt8.toNat_ofNat', Nat.mod_eq_of_lt (by omega)]
  omega
theorem wrap8_byte (x : Int) : IntKind.u8.wrap x = (byteOf x).toNat := by
  rw [byteOf_nat]; simp [IntKind.wrap, IntKind.signed, IntKind.bits]

/-- A number's bytes, the greatest first. -/
def nB (n : Int) (k : Nat) : List UInt8 := (List.range k).map fun i => byteOf (n / 256 ^ (k - 1 - i))
theorem nB_len (n : Int) (k : Nat) : (nB n k).length = k := by simp [nB]
theorem nB_get {n : Int} {k i : Nat} (h : i < k) : (nB n k).getD i 0 = byteOf (n / 256 ^ (k - 1 - i)) := by
  simp [nB, h]
theorem nB_take {n : Int} {k i : Nat} (h : i < k) : (nB n k).take (i + 1) = (nB n k).take i ++ [byteOf (n / 256 ^ (k - 1 - i))] := by
  rw [List.take_succ_eq_append_getElem (by rw [nB_len]; exact h)]; simp [nB]
theorem nB_drop {n : Int} {k i : Nat} (h : i < k) : (nB n k).drop i = byteOf (n / 256 ^ (k - 1 - i)) :: (nB n k).drop (i + 1) := by
  rw [List.drop_eq_getElem_cons (by rw [nB_len]; exact h)]; simp [nB]

theorem bytesPV_len (l : List UInt8) : (bytesPV l).length = l.length := by simp [bytesPV]
theorem bytesPV_app (l m : List UInt8) : bytesPV (l ++ m) = bytesPV l ++ bytesPV m := by simp [bytesPV]
theorem bytesPV_one (b : UInt8) : bytesPV [b] = [.int .u8 b.toNat] := rfl
theorem pvBytes_bytes (l : List UInt8) : pvBytes (bytesPV l) = l := by
  simp only [pvBytes, bytesPV, List.map_map]
  conv => rhs; rw [← List.map_id l]
  exact List.map_congr_left fun b _ => by simp [pv_I]
theorem bytesPV_take (l : List UInt8) (i : Nat) : bytesPV (l.take i) = (bytesPV l).take i := by simp [bytesPV]

theorem shr8 {n : Int} {i : Nat} (h : 0 ≤ n) (hi : i ≤ 7) : shrI .i64 n (8 * i : Nat) = n / 256 ^ i := by
  unfold shrI
  have e : min (((8 * i : Nat) : Int).toNat) IntKind.i64.bits = 8 * i := by
    have : IntKind.i64.bits = 64 := rfl
    rw [this, Int.toNat_natCast]; omega
  rw [e, Int.fdiv_eq_ediv_of_nonneg _ (Int.pow_nonneg (by omega)), Int.pow_mul]
  rfl

def c_bigBytes : FSpec := ⟨[(.rd, .int .i64), (.rd, .int .i64)], [.str], true, fun ps => 0 ≤ (nth ps 0).I ∧ 0 ≤ (nth ps 1).I ∧ (nth ps 1).I ≤ 7, fun ps => [.str (nB (nth ps 0).I (nth ps 1).I.toNat)], fun _ => []⟩
theorem k_bigBytes : FnOk Try.prog 137 c_bigBytes := by
  refine fn_mk [0, 1, 4, 5, 6] [.tmp 4] (env_nil (tyTab_ok [])) mixed Try.func137 rfl (by decide) rfl (by decide) rfl ?_
  intro ps hT hpre W hW
  simp only [c_bigBytes, TyA, Ty, Tys] at hT hpre
  obtain ⟨_, _, rfl, ⟨n, rfl, hn⟩, _, _, rfl, ⟨k, rfl, hk⟩, rfl⟩ := hT
  simp only [nth_zero, nth_succ, pv_I] at hpre
  obtain ⟨hp1, hp2, hp3⟩ := hpre
  obtain ⟨m, rfl⟩ := Int.eq_ofNat_of_zero_le hp2
  rw [inR64] at hn
  refine hW.vc [] _ _ ?_
  simp [-List.getD_eq_getElem?_getD, c_bigBytes]
  refine ⟨by omega, hW.loopS _ _ _ [.sl 0 .dp (.int .i64), .sl 5 .dp (.list (.int .u8)), .sl 6 .dp (.int .i64)] (fun ys => ∃ j : Nat, ys = [.int .i64 (n / 256 ^ (m - j)), .list (List.replicate j (.int .u8 0) ++ (bytesPV (nB n m)).drop j), .int .i64 (j - 1)] ∧ j ≤ m) (fun ys => ((nth ys 2).I + 1).toNat) ?_ ?_⟩
  · simp [-List.getD_eq_getElem?_getD, c_bigBytes]
    refine ⟨m, ⟨by simp, by rw [List.drop_eq_nil_of_le (by rw [bytesPV_len, nB_len]; omega), List.append_nil], by rw [wrap64 (by omega)]⟩, by omega⟩
  · rintro ys ⟨j, rfl, h1⟩
    refine hW.vc [] _ _ ?_
    simp [-List.getD_eq_getElem?_getD, c_bigBytes]
    rw [bytesPV_len, nB_len]
    refine ⟨fun h2 => ⟨⟨h2, by omega⟩, by omega, ⟨j - 1, ⟨?_, ?_, by rw [wrap64 (by omega)]; omega⟩, by omega⟩, by rw [wrap64 (by omega)]; omega⟩, fun h2 => ?_⟩
    · have e : m - (j - 1) = (m - j) + 1 := by omega
      have := shr8 (n := n / 256 ^ (m - j)) (i := 1) (Int.ediv_nonneg hp1 (Int.pow_nonneg (by omega))) (by omega)
      rw [e, Int.pow_succ, ← Int.ediv_ediv_of_nonneg (Int.pow_nonneg (by omega))]
      simpa using this
    · have h3 : (bytesPV (nB n m)).drop (j - 1) = .int .u8 (byteOf (n / 256 ^ (m - j))).toNat :: (bytesPV (nB n m)).drop j := by
        have h4 := nB_drop (n := n) (show j - 1 < m by omega)
        have e1 : m - 1 - (j - 1) = m - j := by omega
        have e2 : j - 1 + 1 = j := by omega
        rw [e1, e2] at h4
        simp only [bytesPV, ← List.map_drop, h4, List.map_cons]
      have h5 : List.replicate j (PV.int IntKind.u8 0) = List.replicate (j - 1) (PV.int IntKind.u8 0) ++ [PV.int IntKind.u8 0] := by
        have : j = (j - 1) + 1 := by omega
        rw [this, List.replicate_succ']; simp
      rw [h3, wrap8_byte, h5, List.append_assoc, List.set_append_right _ _ (by simp), List.length_replicate, Nat.sub_self]
      rfl
    · have : j = 0 := by omega
      subst this
      simp [pvBytes_bytes]

def c_l02Number : FSpec := ⟨[(.rd, .int .i64), (.rd, .int .i64)], [.list (.int .u8)], true, fun ps => 0 ≤ (nth ps 0).I ∧ 0 ≤ (nth ps 1).I ∧ (nth ps 1).I ≤ 7, fun ps => [.list (bytesPV (nB (nth ps 0).I (nth ps 1).I.toNat))], fun _ => []⟩
theorem k_l02Number : FnOk Try.prog 141 c_l02Number := by
  refine fn_mk [0, 1, 4, 5, 6] [.tmp 4] (env_nil (tyTab_ok [])) mixed Try.func141 rfl (by decide) rfl (by decide) rfl ?_
  intro ps hT hpre W hW
  simp only [c_l02Number, TyA, Ty, Tys] at hT hpre
  obtain ⟨_, _, rfl, ⟨n, rfl, hn⟩, _, _, rfl, ⟨k, rfl, hk⟩, rfl⟩ := hT
  simp only [nth_zero, nth_succ, pv_I] at hpre
  obtain ⟨hp1, hp2, hp3⟩ := hpre
  obtain ⟨m, rfl⟩ := Int.eq_ofNat_of_zero_le hp2
  rw [inR64] at hn
  refine hW.vc [] _ _ ?_
  simp [-List.getD_eq_getElem?_getD, c_l02Number]
  refine hW.loopS _ _ _ [.sl 5 .dp (.list (.int .u8)), .sl 6 .dp (.int .i64)] (fun ys => ∃ j : Nat, ys = [.list (bytesPV ((nB n m).take (m - j))), .int .i64 (j - 1)] ∧ j ≤ m) (fun ys => ((nth ys 1).I + 1).toNat) ?_ ?_
  · simp [-List.getD_eq_getElem?_getD, c_l02Number]
    refine ⟨m, ⟨by simp [bytesPV], by rw [wrap64 (by omega)]⟩, by omega⟩
  · rintro ys ⟨j, rfl, h1⟩
    refine hW.vc [] _ _ ?_
    simp [-List.getD_eq_getElem?_getD, c_l02Number]
    refine ⟨fun h2 => ?_, fun h2 => ?_⟩
    · have e0 : (8 * ((j : Int) - 1)) = ((8 * (j - 1) : Nat) : Int) := by omega
      have e1 : IntKind.u64.wrap (IntKind.i64.wrap (8 * ((j : Int) - 1))) = ((8 * (j - 1) : Nat) : Int) := by
        rw [wrap64 (by omega), e0]
        simp [IntKind.wrap, IntKind.signed, IntKind.bits]; omega
      rw [e1, shr8 hp1 (by omega), wrap8_byte, wrap64 (by omega), bytesPV_len, List.length_take, nB_len]
      refine ⟨by omega, by omega, fun _ => ⟨⟨j - 1, ⟨?_, by omega⟩, by omega⟩, by omega⟩⟩
      have h4 := nB_take (n := n) (show m - j < m by omega)
      have e2 : m - 1 - (m - j) = j - 1 := by omega
      have e3 : m - j + 1 = m - (j - 1) := by omega
      rw [e2, e3] at h4
      rw [h4, bytesPV_app, bytesPV_one]
    · have : j = 0 := by omega
      subst this
      rw [Nat.sub_zero, List.take_of_length_le (by rw [nB_len]; omega)]

def bitI (b : Bool) : Int := if b then 1 else 0
def c_bit : FSpec := ⟨[(.rd, .bool)], [.int .i64], true, fun _ => True, fun ps => [.int .i64 (bitI (nth ps 0).B)], fun _ => []⟩
theorem k_bit : FnOk Try.prog 136 c_bit := by
  refine fn_mk [0, 2] [.tmp 2] (env_nil (tyTab_ok [])) mixed Try.func136 rfl (by decide) rfl (by decide) rfl ?_
  intro ps hT hpre W hW
  simp only [c_bit, TyA, Ty, Tys] at hT hpre
  obtain ⟨_, _, rfl, ⟨b, rfl⟩, rfl⟩ := hT
  refine hW.vc [] _ _ ?_
  cases b <;> simp [-List.getD_eq_getElem?_getD, c_bit, bitI]
def c_l01Bit : FSpec := c_bit
theorem k_l01Bit : FnOk Try.prog 140 c_l01Bit := by
  refine fn_mk [0, 2] [.tmp 2] (env_nil (tyTab_ok [])) mixed Try.func140 rfl (by decide) rfl (by decide) rfl ?_
  intro ps hT hpre W hW
  simp only [c_l01Bit, TyA, Ty, Tys] at hT hpre
  simp only [c_bit, TyA, Ty, Tys] at hT
  obtain ⟨_, _, rfl, ⟨b, rfl⟩, rfl⟩ := hT
  refine hW.vc [] _ _ ?_
  cases b <;> simp [-List.getD_eq_getElem?_getD, c_l01Bit, c_bit, bitI]

def numsB (es : List PV) : List UInt8 := es.flatMap fun e => nB (e.I + 1) 3
theorem numsB_take {es : List PV} {i : Nat} (h : i < es.length) : numsB (es.take (i + 1)) = numsB (es.take i) ++ nB ((nth es i).I + 1) 3 := by
  rw [take_nth h]; simp [numsB]
theorem numsB_len : ∀ (es : List PV), (numsB es).length = 3 * es.length
  | [] => rfl
  | e :: es => by
    have := numsB_len es
    simp only [numsB, List.flatMap_cons, List.length_append, nB_len, List.length_cons] at this ⊢
    omega

def c_l02Numbers : FSpec := ⟨[(.rd, .list (.int .i64))], [.list (.int .u8)], true, fun ps => (nth ps 0).L.length ≤ 1048576 ∧ ∀ e ∈ (nth ps 0).L, -1 ≤ e.I ∧ e.I ≤ 1073741824, fun ps => [.list (bytesPV (numsB (nth ps 0).L))], fun _ => []⟩
theorem k_l02Numbers : FnOk Try.prog 139 c_l02Numbers := by
  refine fn_mk [0, 2, 3, 4] [.tmp 2] (env_cons (cs := []) k_l02Number (env_nil (tyTab_ok []))) mixed Try.func139 rfl (by decide) rfl (by decide) rfl ?_
  intro ps hT hpre W hW
  simp only [c_l02Numbers, TyA, Ty, Tys] at hT hpre
  obtain ⟨_, _, rfl, ⟨es, rfl, hes, tes⟩, rfl⟩ := hT
  simp only [nth_zero, pv_L] at hpre
  obtain ⟨hp1, hp2⟩ := hpre
  refine hW.vc [] _ _ ?_
  simp [-List.getD_eq_getElem?_getD, c_l02Numbers, c_l02Number]
  refine hW.loopS _ _ _ [.sl 3 .dp (.list (.int .u8)), .sl 4 .dp (.int .i64)] (fun ys => ∃ i : Nat, ys = [.list (bytesPV (numsB (es.take i))), .int .i64 i] ∧ i ≤ es.length) (fun ys => es.length - (nth ys 1).I.toNat) ?_ ?_
  · simp [-List.getD_eq_getElem?_getD, c_l02Numbers, c_l02Number]
    exact ⟨0, ⟨by simp [numsB, bytesPV], rfl⟩, by omega⟩
  · rintro ys ⟨i, rfl, h1⟩
    refine hW.vc [] _ _ ?_
    simp [-List.getD_eq_getElem?_getD, c_l02Numbers, c_l02Number]
    refine fun _ => ⟨fun h2 => ⟨h2, fun _ => ?_⟩, fun h2 => by rw [List.take_of_length_le h2]⟩
    have h3 := hp2 _ (nth_mem h2)
    rw [wrap64 (n := (nth es i).I + 1) (by omega), wrap64 (n := (i : Int) + 1) (by omega), bytesPV_len, bytesPV_len, nB_len, numsB_len, List.length_take]
    exact ⟨by omega, by omega, fun _ => ⟨⟨i + 1, ⟨by rw [numsB_take h2, bytesPV_app], by omega⟩, by omega⟩, by omega⟩⟩

def fieldsB (es : List PV) : List UInt8 := byteOf es.length :: es.flatMap fun e => nB e.S.length 2 ++ e.S
theorem fieldsB_take {es : List PV} {i : Nat} (n : Int) (h : i < es.length) : (es.take (i + 1)).flatMap (fun e => nB e.S.length 2 ++ e.S) = (es.take i).flatMap (fun e => nB e.S.length 2 ++ e.S) ++ (nB (nth es i).S.length 2 ++ (nth es i).S) := by
  rw [take_nth h]; simp
theorem flds_len {k : Nat} : ∀ {es : List PV}, (∀ e ∈ es, e.S.length ≤ k) → (es.flatMap fun e => nB e.S.length 2 ++ e.S).length ≤ es.length * (k + 2)
  | [], _ => by simp
  | e :: es, h => by
    have h1 := flds_len (es := es) fun x hx => h x (by simp [hx])
    have h2 := h e (by simp)
    simp only [List.flatMap_cons, List.length_append, nB_len, List.length_cons, Nat.add_mul] at h1 ⊢
    omega

def c_l02Fields : FSpec := ⟨[(.rd, .list .str)], [.list (.int .u8)], true, fun ps => (nth ps 0).L.length ≤ 1000 ∧ ∀ e ∈ (nth ps 0).L, e.S.length ≤ 1048576, fun ps => [.list (bytesPV (fieldsB (nth ps 0).L))], fun _ => []⟩
theorem k_l02Fields : FnOk Try.prog 142 c_l02Fields := by
  refine fn_mk [0, 2, 3, 4] [.tmp 2] (env_cons (cs := []) k_l02Number (env_nil (tyTab_ok []))) mixed Try.func142 rfl (by decide) rfl (by decide) rfl ?_
  intro ps hT hpre W hW
  simp only [c_l02Fields, TyA, Ty, Tys] at hT hpre
  obtain ⟨_, _, rfl, ⟨es, rfl, hes, tes⟩, rfl⟩ := hT
  simp only [nth_zero, pv_L] at hpre
  obtain ⟨hp1, hp2⟩ := hpre
  refine hW.vc [(5, [7, 12], .take 0 <| .take 1 <| .take 2 <| .take 3 <| .take 4 <| .take 5 <| .take 8 <| .take 9 <| .alt 6 (.alt 7 (.take 10 <| .take 11 <| .alt 12 (.alt 13 (.done) .stop) .stop) (.alt 10 (.alt 7 (.take 11 <| .alt 12 (.alt 13 (.done) .stop) .stop) (.alt 11 (.alt 7 (.alt 12 (.alt 13 (.done) .stop) .stop) .stop) .stop)) .stop)) (.alt 10 (.alt 6 (.alt 7 (.take 11 <| .alt 12 (.alt 13 (.done) .stop) .stop) (.alt 11 (.alt 7 (.alt 12 (.alt 13 (.done) .stop) .stop) .stop) .stop)) (.alt 11 (.alt 6 (.alt 7 (.alt 12 (.alt 13 (.done) .stop) .stop) .stop) .stop) .stop)) .stop))] _ _ ?_
  simp [-List.getD_eq_getElem?_getD, c_l02Fields, c_l02Number]
  refine fun h1 => hW.loopS _ _ _ [.sl 3 .dp (.list (.int .u8)), .sl 4 .dp (.int .i64)] (fun ys => ∃ i : Nat, ys = [.list (bytesPV (byteOf es.length :: (es.take i).flatMap fun e => nB e.S.length 2 ++ e.S)), .int .i64 i] ∧ i ≤ es.length) (fun ys => es.length - (nth ys 1).I.toNat) ?_ ?_
  · simp [-List.getD_eq_getElem?_getD, c_l02Fields, c_l02Number]
    exact ⟨0, ⟨by simp [bytesPV, wrap8_byte], rfl⟩, by omega⟩
  · rintro ys ⟨i, rfl, h2⟩
    refine hW.vc [(5, [7, 12], .take 0 <| .take 1 <| .take 2 <| .take 3 <| .take 4 <| .take 5 <| .take 8 <| .take 9 <| .alt 6 (.alt 7 (.take 10 <| .take 11 <| .alt 12 (.alt 13 (.done) .stop) .stop) (.alt 10 (.alt 7 (.take 11 <| .alt 12 (.alt 13 (.done) .stop) .stop) (.alt 11 (.alt 7 (.alt 12 (.alt 13 (.done) .stop) .stop) .stop) .stop)) .stop)) (.alt 10 (.alt 6 (.alt 7 (.take 11 <| .alt 12 (.alt 13 (.done) .stop) .stop) (.alt 11 (.alt 7 (.alt 12 (.alt 13 (.done) .stop) .stop) .stop) .stop)) (.alt 11 (.alt 6 (.alt 7 (.alt 12 (.alt 13 (.done) .stop) .stop) .stop) .stop) .stop)) .stop))] _ _ ?_
    simp [-List.getD_eq_getElem?_getD, c_l02Fields, c_l02Number]
    refine fun _ => ⟨fun h3 => ?_, fun h3 => by rw [List.take_of_length_le h3]; rfl⟩
    have hA : (bytesPV (byteOf es.length :: (es.take i).flatMap fun e => nB e.S.length 2 ++ e.S)).length ≤ 1100000000 := by
      rw [bytesPV_len, List.length_cons]
      have := flds_len (k := 1048576) (es := es.take i) fun e he => hp2 e (List.mem_of_mem_take he)
      rw [List.length_take, Nat.min_eq_left h2] at this
      omega
    have hB : (bytesPV (nB ((nth es i).S.length : Int) 2)).length = 2 := by rw [bytesPV_len, nB_len]
    have hS : (bytesPV (nth es i).S).length ≤ 1048576 := by rw [bytesPV_len]; exact hp2 _ (nth_mem h3)
    rw [wrap64 (n := (i : Int) + 1) (by omega)]
    generalize hX : bytesPV (byteOf es.length :: (es.take i).flatMap fun e => nB e.S.length 2 ++ e.S) = X at *
    have hfin : (∃ i_1 : Nat, (X ++ (bytesPV (nB ((nth es i).S.length : Int) 2) ++ bytesPV (nth es i).S) = bytesPV (byteOf es.length :: (es.take i_1).flatMap fun e => nB e.S.length 2 ++ e.S) ∧ (i : Int) + 1 = i_1) ∧ i_1 ≤ es.length) ∧ es.length - ((i : Int) + 1).toNat < es.length - i := by
      refine ⟨⟨i + 1, ⟨?_, by omega⟩, by omega⟩, by omega⟩
      rw [← hX, fieldsB_take 0 h3, ← bytesPV_app, ← bytesPV_app, List.cons_append]
    exact ⟨by decide +kernel, h3, fun _ _ => ⟨⟨by omega, fun _ => ⟨h3, fun _ => ⟨by omega, fun _ => hfin⟩⟩⟩, h3, ⟨by omega, fun _ => ⟨h3, fun _ => ⟨by omega, fun _ => hfin⟩⟩⟩, h3, fun _ => ⟨by omega, fun _ => ⟨by omega, fun _ => hfin⟩⟩⟩⟩

def eqB (x y : PV) : Bool := x.I == y.I
theorem eqB_refl (es : List PV) : eqL eqB es es = true := eqL_refl fun _ => by simp [eqB]
def c_eqByteS : FSpec := ⟨[(.rd, .list (.int .u8)), (.rd, .list (.int .u8))], [.bool], true, fun _ => True, fun ps => [.bool (eqL eqB (nth ps 0).L (nth ps 1).L)], fun _ => []⟩
theorem k_eqByteS : FnOk Try.prog 12 c_eqByteS := by
  refine fn_mk [0, 1, 4, 5] [.tmp 4] (env_nil (tyTab_ok [])) mixed Try.func12 rfl (by decide) rfl (by decide) rfl ?_
  intro ps hT hpre W hW
  simp only [c_eqByteS, TyA, Ty, Tys] at hT hpre
  obtain ⟨_, _, rfl, ⟨es, rfl, hes, tes⟩, _, _, rfl, ⟨es2, rfl, hes2, tes2⟩, rfl⟩ := hT
  refine hW.vc [(6, [], .take 0 <| .take 1 <| .take 2 <| .take 3 <| .take 4 <| .take 5 <| .take 6 <| .take 7 <| .take 8 <| .done)] _ _ ?_
  simp [-List.getD_eq_getElem?_getD, c_eqByteS]
  refine fun h1 h2 => ⟨fun h3 => eqL_len (by omega), fun h3 => ?_⟩
  refine hW.loopS _ _ _ [.sl 5 .dp (.int .i64)] (fun ys => ∃ i : Nat, ys = [.int .i64 i] ∧ i ≤ es.length ∧ eqL eqB es es2 = eqL eqB (es.drop i) (es2.drop i)) (fun ys => es.length - (nth ys 0).I.toNat) ?_ ?_
  · simp [-List.getD_eq_getElem?_getD, c_eqByteS]
    exact ⟨0, rfl, by simp, by simp⟩
  · rintro ys ⟨i, rfl, h4, h5⟩
    refine hW.vc [(6, [], .take 0 <| .take 1 <| .take 2 <| .take 3 <| .take 4 <| .take 5 <| .take 6 <| .take 7 <| .take 8 <| .done)] _ _ ?_
    simp [-List.getD_eq_getElem?_getD, c_eqByteS]
    refine fun _ => ⟨fun h6 => ⟨by decide +kernel, h6, fun _ => ⟨by omega, fun _ => ?_⟩⟩, fun h6 => ?_⟩
    · rw [drop_nth h6, drop_nth (by omega : i < es2.length), eqL] at h5
      rw [wrap64 (by omega)]
      refine ⟨fun h7 => by rw [h5]; simp [eqB, h7], fun h7 => ⟨⟨i + 1, by omega, by omega, by rw [h5]; simp [eqB, h7]⟩, by omega⟩⟩
    · rw [h5, List.drop_eq_nil_of_le h6, List.drop_eq_nil_of_le (by omega)]; rfl

/-- Bytes marked. -/
def markB (k : Int) : Nat → List PV
  | 0 => []
  | n + 1 => .int .u8 (byteOf k).toNat :: markB (k + 1) n
theorem markB_len : ∀ (n : Nat) (k : Int), (markB k n).length = n
  | 0, _ => rfl
  | n + 1, k => by simp [markB, markB_len n]
theorem markB_snoc : ∀ (n : Nat) (k : Int), markB k (n + 1) = markB k n ++ [.int .u8 (byteOf (k + n)).toNat]
  | 0, k => by simp [markB]
  | n + 1, k => by
    rw [markB, markB_snoc n (k + 1), markB, List.cons_append]
    have e : k + 1 + (n : Int) = k + ((n + 1 : Nat) : Int) := by omega
    rw [e]
def c_markByteS : FSpec := ⟨[(.mt, .list (.int .u8)), (.rd, .int .i64)], [.int .i64], true, fun ps => 0 ≤ (nth ps 1).I ∧ (nth ps 1).I + (nth ps 0).L.length ≤ 1073741823, fun ps => [.int .i64 ((nth ps 1).I + (nth ps 0).L.length)], fun ps => [.list (markB (nth ps 1).I (nth ps 0).L.length)]⟩
theorem k_markByteS : FnOk Try.prog 13 c_markByteS := by
  refine fn_mk [0, 1, 4, 5] [.tmp 4] (env_nil (tyTab_ok [])) mixed Try.func13 rfl (by decide) rfl (by decide) rfl ?_
  intro ps hT hpre W hW
  simp only [c_markByteS, TyA, Ty, Tys] at hT hpre
  obtain ⟨_, _, rfl, ⟨es, rfl, hes, tes⟩, _, _, rfl, ⟨k, rfl, hk⟩, rfl⟩ := hT
  simp only [nth_zero, nth_succ, pv_I, pv_L] at hpre
  refine hW.vc [] _ _ ?_
  simp [-List.getD_eq_getElem?_getD, c_markByteS]
  refine hW.loopS _ _ _ [.ar 0 (.int .u8), .sl 1 .dp (.int .i64), .sl 5 .dp (.int .i64)] (fun ys => ∃ i : Nat, ys = [.list (markB k i ++ es.drop i), .int .i64 (k + i), .int .i64 i] ∧ i ≤ es.length) (fun ys => es.length - (nth ys 2).I.toNat) ?_ ?_
  · simp [-List.getD_eq_getElem?_getD, c_markByteS]
    exact ⟨0, ⟨by simp [markB], by omega, rfl⟩, by omega⟩
  · rintro ys ⟨i, rfl, h2⟩
    refine hW.vc [] _ _ ?_
    simp [-List.getD_eq_getElem?_getD, c_markByteS]
    rw [markB_len, wrap8_byte, wrap64 (n := k + (i : Int) + 1) (by omega), wrap64 (n := (i : Int) + 1) (by omega)]
    refine fun _ => ⟨fun h3 => ⟨by omega, by omega, ⟨i + 1, ⟨?_, by omega, by omega⟩, by omega⟩, by omega⟩, fun h3 => ?_⟩
    · exact mark_step (markB_len i k) (by omega) (markB_snoc i k)
    · have : i = es.length := by omega
      subst this
      simp

def heldB1 (k : Int) (e : PV) : Bool := e.I == (byteOf k).toNat
theorem heldB_mark (n : Nat) (k : Int) : heldGo heldB1 1 k (markB k n) = k + n := by
  rw [held_marked (m := markB) (fun _ => rfl) (fun k n => ⟨_, rfl, by simp [heldB1, pv_I]⟩), Int.one_mul]
def c_heldByteS : FSpec := ⟨[(.rd, .list (.int .u8)), (.rd, .int .i64)], [.int .i64], true, fun ps => 0 ≤ (nth ps 1).I ∧ (nth ps 1).I + (nth ps 0).L.length ≤ 1073741823, fun ps => [.int .i64 (heldGo heldB1 1 (nth ps 1).I (nth ps 0).L)], fun _ => []⟩
theorem up_get' {w h : Int} : ∀ {es : List PV} {p : Int}, upB w h p es = true → ∀ i, i < es.length → (0 ≤ (nth (nth es i).A 0).I ∧ (nth (nth es i).A 0).I < h) ∧ ((nth (nth es i).A 1).S.length : Int) = 4 * w
  | [], p, hu, i, hi => by simp at hi
  | e :: es, p, hu, 0, hi => by
    simp only [upB, Bool.and_eq_true, inB, decide_eq_true_eq, rowB] at hu
    rw [nth_zero]; omega
  | e :: es, p, hu, i + 1, hi => by
    simp only [upB, Bool.and_eq_true] at hu
    rw [nth_succ]
    exact up_get' hu.2 i (by simpa using hi)
theorem up_all {w h p : Int} {es : List PV} (hu : upB w h p es = true) : ∀ e ∈ es, (0 ≤ (nth e.A 0).I ∧ (nth e.A 0).I < h) ∧ ((nth e.A 1).S.length : Int) = 4 * w := by
  intro e he
  obtain ⟨i, hi, rfl⟩ := List.mem_iff_getElem.1 he
  have := up_get' hu i hi
  rwa [nth_eq hi] at this
theorem vw_facts {n f w h : Int} {u : Bool} {es : List PV} (hv : viewB [.int .i64 n, .int .i64 f, .bool u, .int .i64 w, .int .i64 h, .list es] = true) :
    (0 ≤ n ∧ n ≤ 60 ∧ 0 ≤ f ∧ f ≤ 60 ∧ 2 ≤ w ∧ w ≤ 24 ∧ 2 ≤ h ∧ h ≤ 10 ∧ (es.length : Int) ≤ h) ∧ upB w h (-1) es = true ∧ (u = true → (es.length : Int) = h ∧ f = 0) ∧ (u = false → f < n) := by
  have e1 : inB n 0 60 = true ∧ sizeB w h = true ∧ leB es.length h = true ∧ upB w h (-1) es = true ∧ selB u (f == 0 && (es.length : Int) == h) (inB f 0 (n - 1)) = true := by
    simpa [viewB, nth_zero, nth_succ, pv_I, pv_L, pv_B, and_assoc] using hv
  obtain ⟨h1, h2, h4, h5, h6⟩ := e1
  simp only [inB, sizeB, leB, Bool.and_eq_true, decide_eq_true_eq] at h1 h2 h4
  have h7 : (u = true → (es.length : Int) = h ∧ f = 0) ∧ (u = false → 0 ≤ f ∧ f < n) := by
    cases u
    · simp [selB, inB] at h6 ⊢; omega
    · simp [selB] at h6 ⊢; omega
  refine ⟨?_, h5, h7.1, fun hu => (h7.2 hu).2⟩
  cases u
  · have := h7.2 rfl; omega
  · have := h7.1 rfl; omega

def VW.ls' (v : VW) : List PV := [.int .i64 v.n, .int .i64 v.f, .bool v.u, .int .i64 v.w, .int .i64 v.h, .list v.r]
/-- The encoding of a view. -/
def viewT (v : VW) : List UInt8 := fieldsB (.str (numsB [.int .i64 v.n, .int .i64 v.f, .int .i64 (bitI v.u), .int .i64 v.w, .int .i64 v.h]) :: v.r.map fun e => .str (nB (nth e.A 0).I 1 ++ (nth e.A 1).S))
def c_l11Bytes : FSpec := ⟨[(.rd, .agg [.int .i64, .int .i64, .bool, .int .i64, .int .i64, .list (.agg [.int .i64, .str])])], [.str], true, fun ps => viewB (nth ps 0).A = true, fun ps => [.str (viewT ⟨(nth (nth ps 0).A 0).I, (nth (nth ps 0).A 1).I, (nth (nth ps 0).A 2).B, (nth (nth ps 0).A 3).I, (nth (nth ps 0).A 4).I, (nth (nth ps 0).A 5).L⟩)], fun _ => []⟩
theorem k_l11Bytes : FnOk Try.prog 89 c_l11Bytes := by
  refine fn_mk [0, 1, 2, 3, 4] [.tmp 2] (env_cons (cs := []) k_l01Bit (env_cons (cs := []) k_l02Fields (env_cons (cs := []) k_l02Number (env_cons (cs := []) k_l02Numbers (env_nil (tyTab_ok [])))))) mixed Try.func89 rfl (by decide) rfl (by decide) rfl ?_
  intro ps hT hpre W hW
  simp only [c_l11Bytes, TyA, Ty, Tys] at hT hpre
  obtain ⟨_, _, rfl, ⟨_, rfl, _, _, rfl, ⟨n, rfl, hn⟩, _, _, rfl, ⟨f, rfl, hf⟩, _, _, rfl, ⟨u, rfl⟩, _, _, rfl, ⟨w, rfl, hw⟩, _, _, rfl, ⟨h, rfl, hh⟩, _, _, rfl, ⟨es, rfl, hes, tes⟩, rfl⟩, rfl⟩ := hT
  simp only [nth_zero, pv_A] at hpre
  refine hW.vc [(1, [], .take 0 <| .take 1 <| .take 2 <| .take 3 <| .take 4 <| .take 5 <| .take 7 <| .take 8 <| .take 9 <| .take 10 <| .alt 6 (.alt 11 (.alt 12 (.take 13 <| .alt 14 (.alt 15 (.done) .stop) .stop) .stop) .stop) .stop), (5, [17], .take 0 <| .take 1 <| .take 2 <| .take 3 <| .take 4 <| .take 5 <| .take 6 <| .take 9 <| .take 10 <| .take 11 <| .take 12 <| .take 13 <| .take 14 <| .alt 7 (.take 8 <| .take 15 <| .alt 16 (.alt 17 (.alt 18 (.done) .stop) .stop) .stop) .stop)] _ _ ?_
  simp [-List.getD_eq_getElem?_getD, c_l11Bytes, c_l02Numbers, c_l02Number, c_l02Fields, c_l01Bit, c_bit, c_bit]
  obtain ⟨g1, g2, g3, g4⟩ := vw_facts hpre
  have hup := up_get' g2
  have hb : -1 ≤ bitI u ∧ bitI u ≤ 1073741824 := by cases u <;> simp [bitI]
  refine ⟨by decide +kernel, rfl, ⟨by omega, by omega, hb, by omega, by omega⟩, ?_⟩
  rw [pvBytes_bytes]
  refine hW.loopS _ _ _ [.sl 3 .dp (.list .str), .sl 4 .dp (.int .i64)] (fun ys => ∃ i : Nat, ys = [.list (.str (numsB [.int .i64 n, .int .i64 f, .int .i64 (bitI u), .int .i64 w, .int .i64 h]) :: (es.take i).map fun e => .str (nB (nth e.A 0).I 1 ++ (nth e.A 1).S)), .int .i64 i] ∧ i ≤ es.length) (fun ys => es.length - (nth ys 1).I.toNat) ?_ ?_
  · simp [-List.getD_eq_getElem?_getD, c_l11Bytes, c_l02Numbers, c_l02Number, c_l02Fields, c_l01Bit, c_bit, c_bit]
    exact ⟨0, ⟨by simp, rfl⟩, by omega⟩
  · rintro ys ⟨i, rfl, h2⟩
    refine hW.vc [(1, [], .take 0 <| .take 1 <| .take 2 <| .take 3 <| .take 4 <| .take 5 <| .take 7 <| .take 8 <| .take 9 <| .take 10 <| .alt 6 (.alt 11 (.alt 12 (.take 13 <| .alt 14 (.alt 15 (.done) .stop) .stop) .stop) .stop) .stop), (5, [17], .take 0 <| .take 1 <| .take 2 <| .take 3 <| .take 4 <| .take 5 <| .take 6 <| .take 9 <| .take 10 <| .take 11 <| .take 12 <| .take 13 <| .take 14 <| .alt 7 (.take 8 <| .take 15 <| .alt 16 (.alt 17 (.alt 18 (.done) .stop) .stop) .stop) .stop)] _ _ ?_
    simp [-List.getD_eq_getElem?_getD, c_l11Bytes, c_l02Numbers, c_l02Number, c_l02Fields, c_l01Bit, c_bit, c_bit]
    rw [wrap64 (n := (i : Int) + 1) (by omega)]
    refine fun _ => ⟨fun h3 => ⟨by decide +kernel, h3, fun _ => ⟨h3, fun _ => ⟨(hup i h3).1.1, ?_, by omega, fun _ => ⟨⟨i + 1, ⟨?_, by omega⟩, by omega⟩, by omega⟩⟩⟩⟩, fun h3 => ⟨⟨by omega, ?_, ?_⟩, ?_⟩⟩
    · have := (hup i h3).2
      rw [pvBytes_bytes, nB_len]; omega
    · rw [pvBytes_bytes, take_nth (by simpa using h3), nth_map _ _ _ h3, nth_eq h3]
    · rw [numsB_len]; simp
    · intro a ha
      obtain ⟨e, he, rfl⟩ := List.mem_map.1 (List.mem_of_mem_take ha)
      have := (up_all g2 e he).2
      simp only [pv_S, List.length_append, nB_len]; omega
    · rw [pvBytes_bytes, List.take_of_length_le (by simpa using h3)]; rfl

theorem viewT_len {n f w h : Int} {u : Bool} {es : List PV} (hv : viewB [.int .i64 n, .int .i64 f, .bool u, .int .i64 w, .int .i64 h, .list es] = true) : (viewT ⟨n, f, u, w, h, es⟩).length ≤ 1100 := by
  obtain ⟨g1, g2, g3, g4⟩ := vw_facts hv
  unfold viewT fieldsB
  rw [List.length_cons]
  have := flds_len (k := 97) (es := .str (numsB [.int .i64 n, .int .i64 f, .int .i64 (bitI u), .int .i64 w, .int .i64 h]) :: es.map fun e => .str (nB (nth e.A 0).I 1 ++ (nth e.A 1).S)) fun x hx => by
    rcases List.mem_cons.1 hx with rfl | hx
    · rw [pv_S, numsB_len]; simp
    · obtain ⟨e, he, rfl⟩ := List.mem_map.1 hx
      have := (up_all g2 e he).2
      simp only [pv_S, List.length_append, nB_len]; omega
  rw [List.length_cons, List.length_map] at this
  refine Nat.le_trans (Nat.add_le_add_right this 1) ?_
  omega

def viewBytesOf (v : VW) : List PV × Int := if viewB v.ls' = true then (bytesPV (viewT v), 0) else ([], 1)
theorem vbo_a {v : VW} (h : viewB v.ls' = true) : viewBytesOf v = (bytesPV (viewT v), 0) := if_pos h
theorem vbo_b {v : VW} (h : viewB v.ls' = false) : viewBytesOf v = ([], 1) := if_neg (by simp [h])
theorem vbo_len (v : VW) : (viewBytesOf v).1.length ≤ 1100 := by
  cases h : viewB v.ls' with
  | true => rw [vbo_a h, bytesPV_len]; exact viewT_len h
  | false => rw [vbo_b h]; simp

def c_sViewBytes : FSpec := ⟨[(.rd, .agg [.int .i64, .int .i64, .bool, .int .i64, .int .i64, .list (.agg [.int .i64, .str])])], [.list (.int .u8), .int .i64], true, fun _ => True,
  fun ps => [.list (viewBytesOf ⟨(nth (nth ps 0).A 0).I, (nth (nth ps 0).A 1).I, (nth (nth ps 0).A 2).B, (nth (nth ps 0).A 3).I, (nth (nth ps 0).A 4).I, (nth (nth ps 0).A 5).L⟩).1,
    .int .i64 (viewBytesOf ⟨(nth (nth ps 0).A 0).I, (nth (nth ps 0).A 1).I, (nth (nth ps 0).A 2).B, (nth (nth ps 0).A 3).I, (nth (nth ps 0).A 4).I, (nth (nth ps 0).A 5).L⟩).2], fun _ => []⟩
theorem k_sViewBytes : FnOk Try.prog 41 c_sViewBytes := by
  refine fn_mk [0, 1, 2, 3] [.tmp 2, .tmp 3] (env_cons (cs := []) k_l11Bytes (env_cons (cs := []) k_sViewOK (env_nil (tyTab_ok [])))) mixed Try.func41 rfl (by decide) rfl (by decide) rfl ?_
  intro ps hT hpre W hW
  simp only [c_sViewBytes, TyA, Ty, Tys] at hT hpre
  obtain ⟨_, _, rfl, ⟨_, rfl, _, _, rfl, ⟨n, rfl, hn⟩, _, _, rfl, ⟨f, rfl, hf⟩, _, _, rfl, ⟨u, rfl⟩, _, _, rfl, ⟨w, rfl, hw⟩, _, _, rfl, ⟨h, rfl, hh⟩, _, _, rfl, ⟨es, rfl, hes, tes⟩, rfl⟩, rfl⟩ := hT
  refine hW.vc [] _ _ ?_
  simp [-List.getD_eq_getElem?_getD, c_sViewBytes, c_sViewOK, c_l11Bytes, c_isView, c_isView]
  exact ⟨fun q => by rw [vbo_b (v := ⟨n, f, u, w, h, es⟩) q]; simp, fun q => ⟨q, by rw [vbo_a (v := ⟨n, f, u, w, h, es⟩) q]; simp⟩⟩

end Go.Proofs.Ytmjjdfhpnckacab
end

section
namespace Go.Proofs.Ytmjjdfhpnckacab
set_option maxRecDepth 100000
set_option linter.unusedSimpArgs false

def c_szEntry : FSpec := ⟨[(.rd, .agg [.int .i64, .str]), (.rd, .int .i64)], [.int .i64], true, fun ps => 0 ≤ (nth ps 1).I, fun ps => [.int .i64 (szR1 (nth ps 1).I (nth (nth ps 0).A 1).S.length)], fun _ => []⟩
theorem k_szEntry : FnOk Try.prog 98 c_szEntry := by
  refine fn_mk [0, 1, 2, 4] [.tmp 4] (env_nil (tyTab_ok [])) mixed Try.func98 rfl (by decide) rfl (by decide) rfl ?_
  intro ps hT hpre W hW
  simp only [c_szEntry, TyA, Ty, Tys] at hT hpre
  obtain ⟨_, _, rfl, ⟨_, rfl, _, _, rfl, ⟨y, rfl, hy⟩, _, _, rfl, ⟨c, rfl, hc⟩, rfl⟩, _, _, rfl, ⟨l, rfl, hl⟩, rfl⟩ := hT
  simp only [nth_zero, nth_succ, pv_I] at hpre
  refine hW.vc [] _ _ ?_
  simp [-List.getD_eq_getElem?_getD, c_szEntry]
  intro h1
  rw [inR64] at hl
  rw [wrap64 (by omega)]
  exact ⟨fun h => by rw [szR1, if_pos h], fun h => by rw [szR1, if_neg (Int.not_lt.2 h)]⟩

def c_szEntryS : FSpec := ⟨[(.rd, .list (.agg [.int .i64, .str])), (.rd, .int .i64)], [.int .i64], true, fun ps => 0 ≤ (nth ps 1).I, fun ps => [.int .i64 (szGs rowLen (nth ps 0).L (nth ps 1).I)], fun _ => []⟩
theorem k_szEntryS : FnOk Try.prog 53 c_szEntryS := by
  refine fn_mk [0, 1, 4, 5] [.tmp 4] (env_cons (cs := []) k_szEntry (env_nil (tyTab_ok []))) mixed Try.func53 rfl (by decide) rfl (by decide) rfl ?_
  intro ps hT hpre W hW
  simp only [c_szEntryS, TyA, Ty, Tys] at hT hpre
  obtain ⟨_, _, rfl, ⟨es, rfl, hes, tes⟩, _, _, rfl, ⟨l, rfl, hl⟩, rfl⟩ := hT
  simp only [nth_zero, nth_succ, pv_I] at hpre
  refine hW.vc [] _ _ ?_
  simp [-List.getD_eq_getElem?_getD, c_szEntryS, c_szEntry]
  intro h1
  rw [inR64] at hl
  rw [wrap64 (by omega)]
  refine ⟨fun h => by simp [szGs, h], fun h => ?_⟩
  refine hW.loopS _ _ _ [.sl 1 .dp (.int .i64), .sl 5 .dp (.int .i64)] (fun ys => ∃ (x : Int) (i : Nat), ys = [.int .i64 x, .int .i64 i] ∧ 0 ≤ x ∧ x ≤ l ∧ i ≤ es.length ∧ szGs rowLen es l = szG rowLen x (es.drop i)) (fun ys => es.length - (nth ys 1).I.toNat) ?_ ?_
  · simp [-List.getD_eq_getElem?_getD, c_szEntryS, c_szEntry]
    exact ⟨_, 0, ⟨rfl, rfl⟩, h, by omega, by simp, by simp [szGs, Int.not_lt.2 h]⟩
  · rintro ys ⟨x, i, rfl, h2, h3, h4, h5⟩
    refine hW.vc [] _ _ ?_
    simp [-List.getD_eq_getElem?_getD, c_szEntryS, c_szEntry]
    refine fun _ => ⟨fun h6 => ⟨h6, fun _ _ _ => ⟨h2, ?_⟩⟩, fun h6 => by rw [h5, List.drop_eq_nil_of_le h6]; rfl⟩
    have h7 : rowLen (nth es i) = (nth (nth es i).A 1).S.length := rfl
    rw [drop_nth h6, szG, h7] at h5
    by_cases h8 : x - ((nth (nth es i).A 1).S.length : Int) < 0
    · rw [if_pos h8] at h5
      rw [szR1, if_pos h8]
      exact ⟨fun _ => h5.symm, fun h => by omega⟩
    · rw [if_neg h8] at h5
      rw [szR1, if_neg h8]
      rw [wrap64 (by omega)]
      exact ⟨fun h => absurd h h8, fun _ => ⟨⟨_, i + 1, ⟨rfl, by omega⟩, by omega, by omega, by omega, h5⟩, by omega⟩⟩

def c_toEntry : FSpec := ⟨[(.rd, .agg [.int .i64, .str])], [.agg [.int .i64, .str]], true, fun _ => True, fun ps => [nth ps 0], fun _ => []⟩
theorem k_toEntry : FnOk Try.prog 103 c_toEntry := by
  refine fn_mk [0, 1, 2, 3] [.cell 2 128] (env_nil (tyTab_ok [])) mixed Try.func103 rfl (by decide) rfl (by decide) rfl ?_
  intro ps hT hpre W hW
  simp only [c_toEntry, TyA, Ty, Tys] at hT hpre
  obtain ⟨_, _, rfl, ⟨_, rfl, _, _, rfl, ⟨y, rfl, hy⟩, _, _, rfl, ⟨c, rfl, hc⟩, rfl⟩, rfl⟩ := hT
  refine hW.vc [] _ _ ?_
  simp [-List.getD_eq_getElem?_getD, c_toEntry]

def c_toEntryS : FSpec := ⟨[(.rd, .list (.agg [.int .i64, .str]))], [.list (.agg [.int .i64, .str])], true, fun ps => (nth ps 0).L.length ≤ 1048576, fun ps => [.list (nth ps 0).L], fun _ => []⟩
theorem k_toEntryS : FnOk Try.prog 59 c_toEntryS := by
  refine fn_mk [0, 2, 3, 4] [.tmp 2] (env_cons (cs := []) k_toEntry (env_nil (tyTab_ok []))) mixed Try.func59 rfl (by decide) rfl (by decide) rfl ?_
  intro ps hT hpre W hW
  simp only [c_toEntryS, TyA, Ty, Tys] at hT hpre
  obtain ⟨_, _, rfl, ⟨es, rfl, hes, tes⟩, rfl⟩ := hT
  simp only [nth_zero, pv_L] at hpre
  refine hW.vc [] _ _ ?_
  simp [-List.getD_eq_getElem?_getD, c_toEntryS, c_toEntry]
  refine fun h1 => ⟨by omega, hW.loopS _ _ _ [.sl 3 .dp (.list (.agg [.int .i64, .str])), .sl 4 .dp (.int .i64)] (fun ys => ∃ (out : List PV) (i : Nat), ys = [.list out, .int .i64 i] ∧ i ≤ es.length ∧ out.length = es.length ∧ out.take i = es.take i) (fun ys => es.length - (nth ys 1).I.toNat) ?_ ?_⟩
  · simp [-List.getD_eq_getElem?_getD, c_toEntryS, c_toEntry]
    exact ⟨_, 0, ⟨rfl, rfl⟩, by simp, by simp, by simp⟩
  · rintro ys ⟨out, i, rfl, h2, h3, h4⟩
    refine hW.vc [] _ _ ?_
    simp [-List.getD_eq_getElem?_getD, c_toEntryS, c_toEntry]
    refine fun _ => ⟨fun h5 => ⟨h5, fun _ _ _ => ⟨by omega, ?_⟩⟩, fun h5 => ?_⟩
    · rw [row_eta (tes _ (nth_mem h5)), wrap64 (by omega)]
      refine ⟨⟨_, i + 1, ⟨rfl, by omega⟩, by omega, by simp [h3], set_take h4 h3 h5 rfl⟩, by omega⟩
    · rw [List.take_of_length_le (by omega), List.take_of_length_le (by omega)] at h4
      exact h4

def c_eqEntry : FSpec := ⟨[(.rd, .agg [.int .i64, .str]), (.rd, .agg [.int .i64, .str])], [.bool], true, fun _ => True, fun ps => [.bool (eqRow1 (nth ps 0).A (nth ps 1).A)], fun _ => []⟩
theorem k_eqEntry : FnOk Try.prog 111 c_eqEntry := by
  refine fn_mk [0, 1, 2, 3, 4] [.tmp 4] (env_nil (tyTab_ok [])) mixed Try.func111 rfl (by decide) rfl (by decide) rfl ?_
  intro ps hT hpre W hW
  simp only [c_eqEntry, TyA, Ty, Tys] at hT hpre
  obtain ⟨_, _, rfl, ⟨_, rfl, _, _, rfl, ⟨y, rfl, hy⟩, _, _, rfl, ⟨c, rfl, hc⟩, rfl⟩, _, _, rfl, ⟨_, rfl, _, _, rfl, ⟨y', rfl, hy'⟩, _, _, rfl, ⟨c', rfl, hc'⟩, rfl⟩, rfl⟩ := hT
  refine hW.vc [] _ _ ?_
  simp [-List.getD_eq_getElem?_getD, c_eqEntry]
  simp only [eqRow1, nth_zero, nth_succ, pv_I, pv_S]
  refine ⟨fun h1 => by simp [h1], fun h1 => ⟨fun h2 => by simp [h2], fun h2 => by simp [h1, h2]⟩⟩

def c_eqEntryS : FSpec := ⟨[(.rd, .list (.agg [.int .i64, .str])), (.rd, .list (.agg [.int .i64, .str]))], [.bool], true, fun _ => True, fun ps => [.bool (eqL eqRow2 (nth ps 0).L (nth ps 1).L)], fun _ => []⟩
theorem k_eqEntryS : FnOk Try.prog 65 c_eqEntryS := by
  refine fn_mk [0, 1, 4, 5] [.tmp 4] (env_cons (cs := []) k_eqEntry (env_nil (tyTab_ok []))) mixed Try.func65 rfl (by decide) rfl (by decide) rfl ?_
  intro ps hT hpre W hW
  simp only [c_eqEntryS, TyA, Ty, Tys] at hT hpre
  obtain ⟨_, _, rfl, ⟨es, rfl, hes, tes⟩, _, _, rfl, ⟨es2, rfl, hes2, tes2⟩, rfl⟩ := hT
  refine hW.vc [(6, [], .take 0 <| .take 1 <| .take 2 <| .take 3 <| .take 4 <| .take 5 <| .take 6 <| .take 7 <| .alt 8 (.take 9 <| .done) .stop)] _ _ ?_
  simp [-List.getD_eq_getElem?_getD, c_eqEntryS, c_eqEntry]
  refine fun h1 h2 => ⟨fun h3 => eqL_len (by omega), fun h3 => ?_⟩
  refine hW.loopS _ _ _ [.sl 5 .dp (.int .i64)] (fun ys => ∃ i : Nat, ys = [.int .i64 i] ∧ i ≤ es.length ∧ eqL eqRow2 es es2 = eqL eqRow2 (es.drop i) (es2.drop i)) (fun ys => es.length - (nth ys 0).I.toNat) ?_ ?_
  · simp [-List.getD_eq_getElem?_getD, c_eqEntryS, c_eqEntry]
    exact ⟨0, rfl, by simp, by simp⟩
  · rintro ys ⟨i, rfl, h4, h5⟩
    refine hW.vc [(6, [], .take 0 <| .take 1 <| .take 2 <| .take 3 <| .take 4 <| .take 5 <| .take 6 <| .take 7 <| .alt 8 (.take 9 <| .done) .stop)] _ _ ?_
    simp [-List.getD_eq_getElem?_getD, c_eqEntryS, c_eqEntry]
    refine fun _ => ⟨fun h6 => ⟨by decide +kernel, h6, fun _ _ _ => ⟨by omega, fun _ _ _ => ?_⟩⟩, fun h6 => ?_⟩
    · rw [drop_nth h6, drop_nth (by omega : i < es2.length), eqL] at h5
      have h8 : eqRow1 [PV.int IntKind.i64 (nth (nth es i).A 0).I, PV.str (nth (nth es i).A 1).S] [PV.int IntKind.i64 (nth (nth es2 i).A 0).I, PV.str (nth (nth es2 i).A 1).S] = eqRow2 (nth es i) (nth es2 i) := rfl
      rw [wrap64 (by omega), h8]
      refine ⟨fun h7 => by rw [h5]; simp [h7], fun h7 => ⟨⟨i + 1, by omega, by omega, by rw [h5]; simp [h7]⟩, by omega⟩⟩
    · rw [h5, List.drop_eq_nil_of_le h6, List.drop_eq_nil_of_le (by omega)]; rfl

def c_markEntryS : FSpec := ⟨[(.mt, .list (.agg [.int .i64, .str])), (.rd, .int .i64)], [.int .i64], true, fun ps => 0 ≤ (nth ps 1).I ∧ (nth ps 1).I + 2 * (nth ps 0).L.length ≤ 1073741823, fun ps => [.int .i64 ((nth ps 1).I + 2 * (nth ps 0).L.length)], fun ps => [.list (markR (nth ps 1).I (nth ps 0).L.length)]⟩
theorem k_markEntryS : FnOk Try.prog 67 c_markEntryS := by
  refine fn_mk [0, 1, 4, 5] [.tmp 4] (env_cons (cs := []) k_markText (env_nil (tyTab_ok []))) mixed Try.func67 rfl (by decide) rfl (by decide) rfl ?_
  intro ps hT hpre W hW
  simp only [c_markEntryS, TyA, Ty, Tys] at hT hpre
  obtain ⟨_, _, rfl, ⟨es, rfl, hes, tes⟩, _, _, rfl, ⟨k, rfl, hk⟩, rfl⟩ := hT
  simp only [nth_zero, nth_succ, pv_I, pv_L] at hpre
  refine hW.vc [] _ _ ?_
  simp [-List.getD_eq_getElem?_getD, c_markEntryS, c_markText]
  refine hW.loopS _ _ _ [.ar 0 (.agg [.int .i64, .str]), .sl 1 .dp (.int .i64), .sl 5 .dp (.int .i64)] (fun ys => ∃ i : Nat, ys = [.list (markR k i ++ es.drop i), .int .i64 (k + 2 * i), .int .i64 i] ∧ i ≤ es.length) (fun ys => es.length - (nth ys 2).I.toNat) ?_ ?_
  · simp [-List.getD_eq_getElem?_getD, c_markEntryS, c_markText]
    exact ⟨0, ⟨by simp [markR], by omega, rfl⟩, by omega⟩
  · rintro ys ⟨i, rfl, h2⟩
    refine hW.vc [] _ _ ?_
    simp [-List.getD_eq_getElem?_getD, c_markEntryS, c_markText]
    rw [markR_len]
    have e1 : IntKind.i64.wrap (k + 2 * (i : Int) + 1) = k + 2 * i + 1 := wrap64 (by omega)
    rw [e1, wrap64 (n := k + 2 * (i : Int) + 1 + 1) (by omega), wrap64 (n := (i : Int) + 1) (by omega)]
    refine fun _ => ⟨fun h3 => ⟨by omega, by omega, by omega, by omega, by omega, ⟨i + 1, ⟨?_, by omega, by omega⟩, by omega⟩, by omega⟩, fun h3 => ?_⟩
    · rw [nth_set (by rw [List.length_append, markR_len, List.length_drop]; omega), pv_A, nth_zero]
      exact mark_step (markR_len i k) (by omega) (markR_snoc i k)
    · have : i = es.length := by omega
      subst this
      simp

def c_heldEntryS : FSpec := ⟨[(.rd, .list (.agg [.int .i64, .str])), (.rd, .int .i64)], [.int .i64], true, fun ps => 0 ≤ (nth ps 1).I ∧ (nth ps 1).I + 2 * (nth ps 0).L.length ≤ 1073741823, fun ps => [.int .i64 (heldGo heldR1 2 (nth ps 1).I (nth ps 0).L)], fun _ => []⟩
theorem k_heldEntryS : FnOk Try.prog 69 c_heldEntryS := by
  refine fn_mk [0, 1, 4, 5] [.tmp 4] (env_cons (cs := []) k_markText (env_nil (tyTab_ok []))) mixed Try.func69 rfl (by decide) rfl (by decide) rfl ?_
  intro ps hT hpre W hW
  simp only [c_heldEntryS, TyA, Ty, Tys] at hT hpre
  obtain ⟨_, _, rfl, ⟨es, rfl, hes, tes⟩, _, _, rfl, ⟨k, rfl, hk⟩, rfl⟩ := hT
  simp only [nth_zero, nth_succ, pv_I, pv_L] at hpre
  refine hW.vc [(7, [], .take 0 <| .take 1 <| .take 2 <| .take 3 <| .take 4 <| .take 5 <| .alt 6 (.take 7 <| .done) .stop)] _ _ ?_
  simp [-List.getD_eq_getElem?_getD, c_heldEntryS, c_markText]
  refine hW.loopS _ _ _ [.sl 1 .dp (.int .i64), .sl 5 .dp (.int .i64)] (fun ys => ∃ i : Nat, ys = [.int .i64 (k + 2 * i), .int .i64 i] ∧ i ≤ es.length ∧ heldGo heldR1 2 k es = heldGo heldR1 2 (k + 2 * i) (es.drop i)) (fun ys => es.length - (nth ys 1).I.toNat) ?_ ?_
  · simp [-List.getD_eq_getElem?_getD, c_heldEntryS, c_markText]
    exact ⟨0, ⟨by omega, rfl⟩, by omega, by simp⟩
  · rintro ys ⟨i, rfl, h2, h3⟩
    refine hW.vc [(7, [], .take 0 <| .take 1 <| .take 2 <| .take 3 <| .take 4 <| .take 5 <| .alt 6 (.take 7 <| .done) .stop)] _ _ ?_
    simp [-List.getD_eq_getElem?_getD, c_heldEntryS, c_markText]
    have e1 : IntKind.i64.wrap (k + 2 * (i : Int) + 1) = k + 2 * i + 1 := wrap64 (by omega)
    rw [e1, wrap64 (n := k + 2 * (i : Int) + 1 + 1) (by omega), wrap64 (n := (i : Int) + 1) (by omega)]
    refine fun _ => ⟨fun h4 => ⟨h4, fun _ => ⟨fun h5 => ?_, fun h5 => ⟨by decide +kernel, h4, fun _ => ⟨by omega, fun h6 => ?_, fun h6 => ⟨⟨i + 1, ⟨by omega, by omega⟩, by omega, ?_⟩, by omega⟩⟩⟩⟩⟩, fun h4 => ?_⟩
    · rw [h3, drop_nth h4, heldGo, if_neg (by simp [heldR1, h5])]
    · rw [h3, drop_nth h4, heldGo, if_neg (by simp [heldR1, h6])]
    · have e2 : k + 2 * ((i + 1 : Nat) : Int) = k + 2 * i + 2 := by omega
      rw [h3, drop_nth h4, heldGo, if_pos (by simp [heldR1, h5, h6]), e2]
    · rw [h3, List.drop_eq_nil_of_le h4]; rfl


def c_szIntS : FSpec := ⟨[(.rd, .list (.int .i64)), (.rd, .int .i64)], [.int .i64], true, fun ps => 0 ≤ (nth ps 1).I, fun ps => [.int .i64 (szR1 (nth ps 1).I (nth ps 0).L.length)], fun _ => []⟩
theorem k_szIntS : FnOk Try.prog 54 c_szIntS := by
  refine fn_mk [0, 1, 4] [.tmp 4] (env_nil (tyTab_ok [])) mixed Try.func54 rfl (by decide) rfl (by decide) rfl ?_
  intro ps hT hpre W hW
  simp only [c_szIntS, TyA, Ty, Tys] at hT hpre
  obtain ⟨_, _, rfl, ⟨es, rfl, hes, tes⟩, _, _, rfl, ⟨l, rfl, hl⟩, rfl⟩ := hT
  simp only [nth_zero, nth_succ, pv_I] at hpre
  refine hW.vc [] _ _ ?_
  simp [-List.getD_eq_getElem?_getD, c_szIntS]
  intro h1
  rw [inR64] at hl
  rw [wrap64 (by omega)]
  exact ⟨fun h => by rw [szR1, if_pos h], fun h => by rw [szR1, if_neg (Int.not_lt.2 h)]⟩

def c_toIntS : FSpec := ⟨[(.rd, .list (.int .i64))], [.list (.int .i64)], true, fun ps => (nth ps 0).L.length ≤ 1048576, fun ps => [.list (nth ps 0).L], fun _ => []⟩
theorem k_toIntS : FnOk Try.prog 60 c_toIntS := by
  refine fn_mk [0, 2, 3, 4] [.tmp 2] (env_nil (tyTab_ok [])) mixed Try.func60 rfl (by decide) rfl (by decide) rfl ?_
  intro ps hT hpre W hW
  simp only [c_toIntS, TyA, Ty, Tys] at hT hpre
  obtain ⟨_, _, rfl, ⟨es, rfl, hes, tes⟩, rfl⟩ := hT
  simp only [nth_zero, pv_L] at hpre
  refine hW.vc [] _ _ ?_
  simp [-List.getD_eq_getElem?_getD, c_toIntS]
  refine fun h1 => ⟨by omega, hW.loopS _ _ _ [.sl 3 .dp (.list (.int .i64)), .sl 4 .dp (.int .i64)] (fun ys => ∃ (out : List PV) (i : Nat), ys = [.list out, .int .i64 i] ∧ i ≤ es.length ∧ out.length = es.length ∧ out.take i = es.take i) (fun ys => es.length - (nth ys 1).I.toNat) ?_ ?_⟩
  · simp [-List.getD_eq_getElem?_getD, c_toIntS]
    exact ⟨_, 0, ⟨rfl, rfl⟩, by simp, by simp, by simp⟩
  · rintro ys ⟨out, i, rfl, h2, h3, h4⟩
    refine hW.vc [] _ _ ?_
    simp [-List.getD_eq_getElem?_getD, c_toIntS]
    refine fun _ => ⟨fun h5 => ⟨h5, fun _ => ⟨by omega, ?_⟩⟩, fun h5 => ?_⟩
    · obtain ⟨x, hx, _⟩ := tes _ (nth_mem h5)
      rw [wrap64 (by omega)]
      refine ⟨⟨_, i + 1, ⟨rfl, by omega⟩, by omega, by simp [h3], set_take h4 h3 h5 (by rw [hx, pv_I])⟩, by omega⟩
    · rw [List.take_of_length_le (by omega), List.take_of_length_le (by omega)] at h4
      exact h4

def c_eqIntS : FSpec := ⟨[(.rd, .list (.int .i64)), (.rd, .list (.int .i64))], [.bool], true, fun _ => True, fun ps => [.bool (eqL eqB (nth ps 0).L (nth ps 1).L)], fun _ => []⟩
theorem k_eqIntS : FnOk Try.prog 66 c_eqIntS := by
  refine fn_mk [0, 1, 4, 5] [.tmp 4] (env_nil (tyTab_ok [])) mixed Try.func66 rfl (by decide) rfl (by decide) rfl ?_
  intro ps hT hpre W hW
  simp only [c_eqIntS, TyA, Ty, Tys] at hT hpre
  obtain ⟨_, _, rfl, ⟨es, rfl, hes, tes⟩, _, _, rfl, ⟨es2, rfl, hes2, tes2⟩, rfl⟩ := hT
  refine hW.vc [(6, [], .take 0 <| .take 1 <| .take 2 <| .take 3 <| .take 4 <| .take 5 <| .take 6 <| .take 7 <| .take 8 <| .done)] _ _ ?_
  simp [-List.getD_eq_getElem?_getD, c_eqIntS]
  refine fun h1 h2 => ⟨fun h3 => eqL_len (by omega), fun h3 => ?_⟩
  refine hW.loopS _ _ _ [.sl 5 .dp (.int .i64)] (fun ys => ∃ i : Nat, ys = [.int .i64 i] ∧ i ≤ es.length ∧ eqL eqB es es2 = eqL eqB (es.drop i) (es2.drop i)) (fun ys => es.length - (nth ys 0).I.toNat) ?_ ?_
  · simp [-List.getD_eq_getElem?_getD, c_eqIntS]
    exact ⟨0, rfl, by simp, by simp⟩
  · rintro ys ⟨i, rfl, h4, h5⟩
    refine hW.vc [(6, [], .take 0 <| .take 1 <| .take 2 <| .take 3 <| .take 4 <| .take 5 <| .take 6 <| .take 7 <| .take 8 <| .done)] _ _ ?_
    simp [-List.getD_eq_getElem?_getD, c_eqIntS]
    refine fun _ => ⟨fun h6 => ⟨by decide +kernel, h6, fun _ => ⟨by omega, fun _ => ?_⟩⟩, fun h6 => ?_⟩
    · rw [drop_nth h6, drop_nth (by omega : i < es2.length), eqL] at h5
      rw [wrap64 (by omega)]
      refine ⟨fun h7 => by rw [h5]; simp [eqB, h7], fun h7 => ⟨⟨i + 1, by omega, by omega, by rw [h5]; simp [eqB, h7]⟩, by omega⟩⟩
    · rw [h5, List.drop_eq_nil_of_le h6, List.drop_eq_nil_of_le (by omega)]; rfl

/-- Numbers marked. -/
def markI (k : Int) : Nat → List PV
  | 0 => []
  | n + 1 => .int .i64 k :: markI (k + 1) n
theorem markI_len : ∀ (n : Nat) (k : Int), (markI k n).length = n
  | 0, _ => rfl
  | n + 1, k => by simp [markI, markI_len n]
theorem markI_snoc : ∀ (n : Nat) (k : Int), markI k (n + 1) = markI k n ++ [.int .i64 (k + n)]
  | 0, k => by simp [markI]
  | n + 1, k => by
    rw [markI, markI_snoc n (k + 1), markI, List.cons_append]
    have e : k + 1 + (n : Int) = k + ((n + 1 : Nat) : Int) := by omega
    rw [e]
def c_markIntS : FSpec := ⟨[(.mt, .list (.int .i64)), (.rd, .int .i64)], [.int .i64], true, fun ps => 0 ≤ (nth ps 1).I ∧ (nth ps 1).I + (nth ps 0).L.length ≤ 1073741823, fun ps => [.int .i64 ((nth ps 1).I + (nth ps 0).L.length)], fun ps => [.list (markI (nth ps 1).I (nth ps 0).L.length)]⟩
theorem k_markIntS : FnOk Try.prog 68 c_markIntS := by
  refine fn_mk [0, 1, 4, 5] [.tmp 4] (env_nil (tyTab_ok [])) mixed Try.func68 rfl (by decide) rfl (by decide) rfl ?_
  intro ps hT hpre W hW
  simp only [c_markIntS, TyA, Ty, Tys] at hT hpre
  obtain ⟨_, _, rfl, ⟨es, rfl, hes, tes⟩, _, _, rfl, ⟨k, rfl, hk⟩, rfl⟩ := hT
  simp only [nth_zero, nth_succ, pv_I, pv_L] at hpre
  refine hW.vc [] _ _ ?_
  simp [-List.getD_eq_getElem?_getD, c_markIntS]
  refine hW.loopS _ _ _ [.ar 0 (.int .i64), .sl 1 .dp (.int .i64), .sl 5 .dp (.int .i64)] (fun ys => ∃ i : Nat, ys = [.list (markI k i ++ es.drop i), .int .i64 (k + i), .int .i64 i] ∧ i ≤ es.length) (fun ys => es.length - (nth ys 2).I.toNat) ?_ ?_
  · simp [-List.getD_eq_getElem?_getD, c_markIntS]
    exact ⟨0, ⟨by simp [markI], by omega, rfl⟩, by omega⟩
  · rintro ys ⟨i, rfl, h2⟩
    refine hW.vc [] _ _ ?_
    simp [-List.getD_eq_getElem?_getD, c_markIntS]
    rw [markI_len, wrap64 (n := k + (i : Int) + 1) (by omega), wrap64 (n := (i : Int) + 1) (by omega)]
    refine fun _ => ⟨fun h3 => ⟨by omega, by omega, ⟨i + 1, ⟨?_, by omega, by omega⟩, by omega⟩, by omega⟩, fun h3 => ?_⟩
    · exact mark_step (markI_len i k) (by omega) (markI_snoc i k)
    · have : i = es.length := by omega
      subst this
      simp

def heldI1 (k : Int) (e : PV) : Bool := e.I == k
theorem heldI_mark (n : Nat) (k : Int) : heldGo heldI1 1 k (markI k n) = k + n := by
  rw [held_marked (m := markI) (fun _ => rfl) (fun k n => ⟨_, rfl, by simp [heldI1, pv_I]⟩), Int.one_mul]
def c_heldIntS : FSpec := ⟨[(.rd, .list (.int .i64)), (.rd, .int .i64)], [.int .i64], true, fun ps => 0 ≤ (nth ps 1).I ∧ (nth ps 1).I + (nth ps 0).L.length ≤ 1073741823, fun ps => [.int .i64 (heldGo heldI1 1 (nth ps 1).I (nth ps 0).L)], fun _ => []⟩
theorem k_heldIntS : FnOk Try.prog 70 c_heldIntS := by
  refine fn_mk [0, 1, 4, 5] [.tmp 4] (env_nil (tyTab_ok [])) mixed Try.func70 rfl (by decide) rfl (by decide) rfl ?_
  intro ps hT hpre W hW
  simp only [c_heldIntS, TyA, Ty, Tys] at hT hpre
  obtain ⟨_, _, rfl, ⟨es, rfl, hes, tes⟩, _, _, rfl, ⟨k, rfl, hk⟩, rfl⟩ := hT
  simp only [nth_zero, nth_succ, pv_I, pv_L] at hpre
  refine hW.vc [] _ _ ?_
  simp [-List.getD_eq_getElem?_getD, c_heldIntS]
  refine hW.loopS _ _ _ [.sl 1 .dp (.int .i64), .sl 5 .dp (.int .i64)] (fun ys => ∃ i : Nat, ys = [.int .i64 (k + i), .int .i64 i] ∧ i ≤ es.length ∧ heldGo heldI1 1 k es = heldGo heldI1 1 (k + i) (es.drop i)) (fun ys => es.length - (nth ys 1).I.toNat) ?_ ?_
  · simp [-List.getD_eq_getElem?_getD, c_heldIntS]
    exact ⟨0, ⟨by omega, rfl⟩, by omega, by simp⟩
  · rintro ys ⟨i, rfl, h2, h3⟩
    refine hW.vc [] _ _ ?_
    simp [-List.getD_eq_getElem?_getD, c_heldIntS]
    rw [wrap64 (n := k + (i : Int) + 1) (by omega), wrap64 (n := (i : Int) + 1) (by omega)]
    refine fun _ => ⟨fun h4 => ⟨h4, fun _ => ⟨fun h5 => ?_, fun h5 => ⟨⟨i + 1, ⟨by omega, by omega⟩, by omega, ?_⟩, by omega⟩⟩⟩, fun h4 => ?_⟩
    · rw [h3, drop_nth h4, heldGo, if_neg (by simp [heldI1, h5])]
    · have e : k + ((i + 1 : Nat) : Int) = k + i + 1 := by omega
      rw [h3, drop_nth h4, heldGo, if_pos (by simp [heldI1, h5]), e]
    · rw [h3, List.drop_eq_nil_of_le h4]; rfl

end Go.Proofs.Ytmjjdfhpnckacab
end

section
namespace Go.Proofs.Ytmjjdfhpnckacab
set_option maxRecDepth 100000
set_option linter.unusedSimpArgs false

/-- What is left behind a node's size. -/
def szQ (a : Int) (v x m : Nat) : Int := if a < 0 then -1 else if szR1 a v < 0 then -1 else if szR1 (szR1 a v) x < 0 then -1 else szR1 (szR1 (szR1 a v) x) m
def szN (v : List PV) (l : Int) : Int := szQ (szGs rowLen (nth v 6).L l) (nth v 10).L.length (nth v 11).L.length (nth v 12).L.length
theorem szR1_le {l : Int} {n : Nat} (h : 0 ≤ l) : szR1 l n ≤ l ∧ -1 ≤ szR1 l n ∧ (0 ≤ szR1 l n → (n : Int) ≤ l) := by
  unfold szR1; split <;> omega

def c_szNode : FSpec := ⟨[(.rd, .agg [.int .i64, .int .i64, .int .i64, .int .i64, .int .i64, .bool, .list (.agg [.int .i64, .str]), .int .i64, .int .i64, .int .i64, .list (.int .i64), .list (.int .i64), .list (.int .i64)]), (.rd, .int .i64)], [.int .i64], true, fun ps => 0 ≤ (nth ps 1).I, fun ps => [.int .i64 (szN (nth ps 0).A (nth ps 1).I)], fun _ => []⟩
theorem k_szNode : FnOk Try.prog 16 c_szNode := by
  refine fn_mk [0, 1, 2, 4] [.tmp 4] (env_cons (cs := []) k_szIntS (env_cons (cs := []) k_szEntryS (env_nil (tyTab_ok [])))) mixed Try.func16 rfl (by decide) rfl (by decide) rfl ?_
  intro ps hT hpre W hW
  simp only [c_szNode, TyA, Ty, Tys] at hT hpre
  obtain ⟨_, _, rfl, ⟨_, rfl, _, _, rfl, ⟨n0, rfl, hn0⟩, _, _, rfl, ⟨n1, rfl, hn1⟩, _, _, rfl, ⟨n2, rfl, hn2⟩, _, _, rfl, ⟨n3, rfl, hn3⟩, _, _, rfl, ⟨n4, rfl, hn4⟩, _, _, rfl, ⟨u, rfl⟩, _, _, rfl, ⟨es, rfl, hes, tes⟩, _, _, rfl, ⟨n5, rfl, hn5⟩, _, _, rfl, ⟨n6, rfl, hn6⟩, _, _, rfl, ⟨n7, rfl, hn7⟩, _, _, rfl, ⟨vs, rfl, hvs, tvs⟩, _, _, rfl, ⟨xs, rfl, hxs, txs⟩, _, _, rfl, ⟨ms, rfl, hms, tms⟩, rfl⟩, _, _, rfl, ⟨l, rfl, hl⟩, rfl⟩ := hT
  simp only [nth_zero, nth_succ, pv_I] at hpre
  have h1 := szGs_le rowLen_nn (es := es) hpre
  refine hW.vc [] _ _ ?_
  simp [-List.getD_eq_getElem?_getD, c_szNode, c_szEntryS, c_szIntS]
  simp only [szN, nth_zero, nth_succ, pv_L]
  unfold szQ
  refine ⟨hpre, fun q => by rw [if_pos q], fun q => ⟨q, fun q2 => by rw [if_neg (by omega), if_pos q2], fun q2 => ⟨q2, fun q3 => by rw [if_neg (by omega), if_neg (by omega), if_pos q3], fun q3 => ⟨q3, fun q4 => ?_, fun q4 => ?_⟩⟩⟩⟩
  · rw [if_neg (by omega), if_neg (by omega), if_neg (by omega)]
    have := (szR1_le (n := ms.length) q3).2.1
    omega
  · rw [if_neg (by omega), if_neg (by omega), if_neg (by omega)]
theorem szN_le {n0 n1 n2 n3 n4 n5 n6 n7 : Int} {u : Bool} {es vs xs ms : List PV} {l : Int} (h : 0 ≤ l) (h2 : 0 ≤ szN [.int .i64 n0, .int .i64 n1, .int .i64 n2, .int .i64 n3, .int .i64 n4, .bool u, .list es, .int .i64 n5, .int .i64 n6, .int .i64 n7, .list vs, .list xs, .list ms] l) :
    (es.length : Int) + vs.length + xs.length + ms.length ≤ 4 * l := by
  simp only [szN, nth_zero, nth_succ, pv_L] at h2
  unfold szQ at h2
  have a1 := szGs_le rowLen_nn (es := es) h
  split at h2
  · omega
  · rename_i q1
    have a2 := szR1_le (n := vs.length) (Int.not_lt.1 q1)
    split at h2
    · omega
    · rename_i q2
      have a3 := szR1_le (n := xs.length) (Int.not_lt.1 q2)
      split at h2
      · omega
      · rename_i q3
        have a4 := szR1_le (n := ms.length) (Int.not_lt.1 q3)
        omega

def c_toNode : FSpec := ⟨[(.rd, .agg [.int .i64, .int .i64, .int .i64, .int .i64, .int .i64, .bool, .list (.agg [.int .i64, .str]), .int .i64, .int .i64, .int .i64, .list (.int .i64), .list (.int .i64), .list (.int .i64)])], [.agg [.int .i64, .int .i64, .int .i64, .int .i64, .int .i64, .bool, .list (.agg [.int .i64, .str]), .int .i64, .int .i64, .int .i64, .list (.int .i64), .list (.int .i64), .list (.int .i64)]], true, fun ps => (nth (nth ps 0).A 6).L.length ≤ 1048576 ∧ (nth (nth ps 0).A 10).L.length ≤ 1048576 ∧ (nth (nth ps 0).A 11).L.length ≤ 1048576 ∧ (nth (nth ps 0).A 12).L.length ≤ 1048576, fun ps => [nth ps 0], fun _ => []⟩
theorem k_toNode : FnOk Try.prog 18 c_toNode := by
  refine fn_mk [0, 1, 2, 3] [.cell 2 41] (env_cons (cs := []) k_toIntS (env_cons (cs := []) k_toEntryS (env_nil (tyTab_ok [])))) mixed Try.func18 rfl (by decide) rfl (by decide) rfl ?_
  intro ps hT hpre W hW
  simp only [c_toNode, TyA, Ty, Tys] at hT hpre
  obtain ⟨_, _, rfl, ⟨_, rfl, _, _, rfl, ⟨n0, rfl, hn0⟩, _, _, rfl, ⟨n1, rfl, hn1⟩, _, _, rfl, ⟨n2, rfl, hn2⟩, _, _, rfl, ⟨n3, rfl, hn3⟩, _, _, rfl, ⟨n4, rfl, hn4⟩, _, _, rfl, ⟨u, rfl⟩, _, _, rfl, ⟨es, rfl, hes, tes⟩, _, _, rfl, ⟨n5, rfl, hn5⟩, _, _, rfl, ⟨n6, rfl, hn6⟩, _, _, rfl, ⟨n7, rfl, hn7⟩, _, _, rfl, ⟨vs, rfl, hvs, tvs⟩, _, _, rfl, ⟨xs, rfl, hxs, txs⟩, _, _, rfl, ⟨ms, rfl, hms, tms⟩, rfl⟩, rfl⟩ := hT
  simp only [nth_zero, nth_succ, pv_A, pv_L] at hpre
  refine hW.vc [] _ _ ?_
  simp [-List.getD_eq_getElem?_getD, c_toNode, c_toEntryS, c_toIntS]
  exact hpre

def eqNd (a b : List PV) : Bool := (nth a 0).I == (nth b 0).I && (nth a 1).I == (nth b 1).I && (nth a 2).I == (nth b 2).I && (nth a 3).I == (nth b 3).I && (nth a 4).I == (nth b 4).I && (nth a 5).B == (nth b 5).B && eqL eqRow2 (nth a 6).L (nth b 6).L &&
  (nth a 7).I == (nth b 7).I && (nth a 8).I == (nth b 8).I && (nth a 9).I == (nth b 9).I && eqL eqB (nth a 10).L (nth b 10).L && eqL eqB (nth a 11).L (nth b 11).L && eqL eqB (nth a 12).L (nth b 12).L
def c_eqNode : FSpec := ⟨[(.rd, .agg [.int .i64, .int .i64, .int .i64, .int .i64, .int .i64, .bool, .list (.agg [.int .i64, .str]), .int .i64, .int .i64, .int .i64, .list (.int .i64), .list (.int .i64), .list (.int .i64)]), (.rd, .agg [.int .i64, .int .i64, .int .i64, .int .i64, .int .i64, .bool, .list (.agg [.int .i64, .str]), .int .i64, .int .i64, .int .i64, .list (.int .i64), .list (.int .i64), .list (.int .i64)])], [.bool], true, fun _ => True, fun ps => [.bool (eqNd (nth ps 0).A (nth ps 1).A)], fun _ => []⟩
theorem k_eqNode : FnOk Try.prog 20 c_eqNode := by
  refine fn_mk [0, 1, 2, 3, 4] [.tmp 4] (env_cons (cs := []) k_eqIntS (env_cons (cs := []) k_eqEntryS (env_nil (tyTab_ok [])))) mixed Try.func20 rfl (by decide) rfl (by decide) rfl ?_
  intro ps hT hpre W hW
  simp only [c_eqNode, TyA, Ty, Tys] at hT hpre
  obtain ⟨_, _, rfl, ⟨_, rfl, _, _, rfl, ⟨n0, rfl, hn0⟩, _, _, rfl, ⟨n1, rfl, hn1⟩, _, _, rfl, ⟨n2, rfl, hn2⟩, _, _, rfl, ⟨n3, rfl, hn3⟩, _, _, rfl, ⟨n4, rfl, hn4⟩, _, _, rfl, ⟨u, rfl⟩, _, _, rfl, ⟨es, rfl, hes, tes⟩, _, _, rfl, ⟨n5, rfl, hn5⟩, _, _, rfl, ⟨n6, rfl, hn6⟩, _, _, rfl, ⟨n7, rfl, hn7⟩, _, _, rfl, ⟨vs, rfl, hvs, tvs⟩, _, _, rfl, ⟨xs, rfl, hxs, txs⟩, _, _, rfl, ⟨ms, rfl, hms, tms⟩, rfl⟩, _, _, rfl, ⟨_, rfl, _, _, rfl, ⟨n0', rfl, hn0'⟩, _, _, rfl, ⟨n1', rfl, hn1'⟩, _, _, rfl, ⟨n2', rfl, hn2'⟩, _, _, rfl, ⟨n3', rfl, hn3'⟩, _, _, rfl, ⟨n4', rfl, hn4'⟩, _, _, rfl, ⟨u', rfl⟩, _, _, rfl, ⟨es', rfl, hes', tes'⟩, _, _, rfl, ⟨n5', rfl, hn5'⟩, _, _, rfl, ⟨n6', rfl, hn6'⟩, _, _, rfl, ⟨n7', rfl, hn7'⟩, _, _, rfl, ⟨vs', rfl, hvs', tvs'⟩, _, _, rfl, ⟨xs', rfl, hxs', txs'⟩, _, _, rfl, ⟨ms', rfl, hms', tms'⟩, rfl⟩, rfl⟩ := hT
  refine hW.vc [] _ _ ?_
  simp [-List.getD_eq_getElem?_getD, c_eqNode, c_eqEntryS, c_eqIntS]
  simp only [eqNd, nth_zero, nth_succ, pv_I, pv_B, pv_L]
  exact ⟨fun q1 => by simp [q1], fun q1 => ⟨fun q2 => by simp [q2], fun q2 => ⟨fun q3 => by simp [q3], fun q3 => ⟨fun q4 => by simp [q4], fun q4 => ⟨fun q5 => by simp [q5], fun q5 => ⟨fun q6 => by simp [q6], fun q6 => ⟨fun q7 => by simp [q7], fun q7 => ⟨fun q8 => by simp [q8], fun q8 => ⟨fun q9 => by simp [q9], fun q9 => ⟨fun q10 => by simp [q10], fun q10 => ⟨fun q11 => by simp [q11], fun q11 => ⟨fun q12 => by simp [q12], fun q12 => ⟨fun q13 => by simp [q13], fun q13 => by simp [q1, q2, q3, q4, q5, q6, q7, q8, q9, q10, q11, q12, q13]⟩⟩⟩⟩⟩⟩⟩⟩⟩⟩⟩⟩⟩
theorem eqNd_refl (v : List PV) : eqNd v v = true := by simp [eqNd, eqL_refl (f := eqRow2) eqRow2_refl, eqB_refl]

def eqMg (a b : List PV) : Bool := (nth a 0).I == (nth b 0).I && (nth a 1).I == (nth b 1).I && (nth a 2).I == (nth b 2).I && (nth a 3).I == (nth b 3).I && (nth a 4).I == (nth b 4).I && (nth a 5).I == (nth b 5).I && (nth a 6).I == (nth b 6).I && (nth a 7).B == (nth b 7).B && eqL eqRow2 (nth a 8).L (nth b 8).L
theorem eqMg_refl (v : List PV) : eqMg v v = true := by simp [eqMg, eqL_refl (f := eqRow2) eqRow2_refl]
def c_eqMessage : FSpec := ⟨[(.rd, .agg [.int .i64, .int .i64, .int .i64, .int .i64, .int .i64, .int .i64, .int .i64, .bool, .list (.agg [.int .i64, .str])]), (.rd, .agg [.int .i64, .int .i64, .int .i64, .int .i64, .int .i64, .int .i64, .int .i64, .bool, .list (.agg [.int .i64, .str])])], [.bool], true, fun _ => True, fun ps => [.bool (eqMg (nth ps 0).A (nth ps 1).A)], fun _ => []⟩
theorem k_eqMessage : FnOk Try.prog 45 c_eqMessage := by
  refine fn_mk [0, 1, 2, 3, 4] [.tmp 4] (env_cons (cs := []) k_eqEntryS (env_nil (tyTab_ok []))) mixed Try.func45 rfl (by decide) rfl (by decide) rfl ?_
  intro ps hT hpre W hW
  simp only [c_eqMessage, TyA, Ty, Tys] at hT hpre
  obtain ⟨_, _, rfl, ⟨_, rfl, _, _, rfl, ⟨n0, rfl, hn0⟩, _, _, rfl, ⟨n1, rfl, hn1⟩, _, _, rfl, ⟨n2, rfl, hn2⟩, _, _, rfl, ⟨n3, rfl, hn3⟩, _, _, rfl, ⟨n4, rfl, hn4⟩, _, _, rfl, ⟨n5, rfl, hn5⟩, _, _, rfl, ⟨n6, rfl, hn6⟩, _, _, rfl, ⟨u, rfl⟩, _, _, rfl, ⟨es, rfl, hes, tes⟩, rfl⟩, _, _, rfl, ⟨_, rfl, _, _, rfl, ⟨n0', rfl, hn0'⟩, _, _, rfl, ⟨n1', rfl, hn1'⟩, _, _, rfl, ⟨n2', rfl, hn2'⟩, _, _, rfl, ⟨n3', rfl, hn3'⟩, _, _, rfl, ⟨n4', rfl, hn4'⟩, _, _, rfl, ⟨n5', rfl, hn5'⟩, _, _, rfl, ⟨n6', rfl, hn6'⟩, _, _, rfl, ⟨u', rfl⟩, _, _, rfl, ⟨es', rfl, hes', tes'⟩, rfl⟩, rfl⟩ := hT
  refine hW.vc [] _ _ ?_
  simp [-List.getD_eq_getElem?_getD, c_eqMessage, c_eqEntryS]
  simp only [eqMg, nth_zero, nth_succ, pv_I, pv_B, pv_L]
  exact ⟨fun q1 => by simp [q1], fun q1 => ⟨fun q2 => by simp [q2], fun q2 => ⟨fun q3 => by simp [q3], fun q3 => ⟨fun q4 => by simp [q4], fun q4 => ⟨fun q5 => by simp [q5], fun q5 => ⟨fun q6 => by simp [q6], fun q6 => ⟨fun q7 => by simp [q7], fun q7 => ⟨fun q8 => by simp [q8], fun q8 => ⟨fun q9 => by simp [q9], fun q9 => by simp [q1, q2, q3, q4, q5, q6, q7, q8, q9]⟩⟩⟩⟩⟩⟩⟩⟩⟩
def eqMg2 (a b : PV) : Bool := eqMg a.A b.A
theorem eqMs_refl (es : List PV) : eqL eqMg2 es es = true := eqL_refl fun _ => eqMg_refl _

def c_eqMessageS : FSpec := ⟨[(.rd, .list (.agg [.int .i64, .int .i64, .int .i64, .int .i64, .int .i64, .int .i64, .int .i64, .bool, .list (.agg [.int .i64, .str])])), (.rd, .list (.agg [.int .i64, .int .i64, .int .i64, .int .i64, .int .i64, .int .i64, .int .i64, .bool, .list (.agg [.int .i64, .str])]))], [.bool], true, fun _ => True, fun ps => [.bool (eqL eqMg2 (nth ps 0).L (nth ps 1).L)], fun _ => []⟩
theorem k_eqMessageS : FnOk Try.prog 21 c_eqMessageS := by
  refine fn_mk [0, 1, 4, 5] [.tmp 4] (env_cons (cs := []) k_eqMessage (env_nil (tyTab_ok []))) mixed Try.func21 rfl (by decide) rfl (by decide) rfl ?_
  intro ps hT hpre W hW
  simp only [c_eqMessageS, TyA, Ty, Tys] at hT hpre
  obtain ⟨_, _, rfl, ⟨es, rfl, hes, tes⟩, _, _, rfl, ⟨es2, rfl, hes2, tes2⟩, rfl⟩ := hT
  refine hW.vc [(6, [], .take 0 <| .take 1 <| .take 2 <| .take 3 <| .take 4 <| .take 5 <| .take 6 <| .take 7 <| .alt 8 (.take 9 <| .done) .stop)] _ _ ?_
  simp [-List.getD_eq_getElem?_getD, c_eqMessageS, c_eqMessage]
  refine fun h1 h2 => ⟨fun h3 => eqL_len (by omega), fun h3 => ?_⟩
  refine hW.loopS _ _ _ [.sl 5 .dp (.int .i64)] (fun ys => ∃ i : Nat, ys = [.int .i64 i] ∧ i ≤ es.length ∧ eqL eqMg2 es es2 = eqL eqMg2 (es.drop i) (es2.drop i)) (fun ys => es.length - (nth ys 0).I.toNat) ?_ ?_
  · simp [-List.getD_eq_getElem?_getD, c_eqMessageS, c_eqMessage]
    exact ⟨0, rfl, by simp, by simp⟩
  · rintro ys ⟨i, rfl, h4, h5⟩
    refine hW.vc [(6, [], .take 0 <| .take 1 <| .take 2 <| .take 3 <| .take 4 <| .take 5 <| .take 6 <| .take 7 <| .alt 8 (.take 9 <| .done) .stop)] _ _ ?_
    simp [-List.getD_eq_getElem?_getD, c_eqMessageS, c_eqMessage]
    refine fun _ => ⟨fun h6 => ⟨by decide +kernel, h6, fun _ _ _ _ _ _ _ _ _ _ _ _ _ _ _ => ⟨by omega, fun _ _ _ _ _ _ _ _ _ _ _ _ _ _ _ => ?_⟩⟩, fun h6 => ?_⟩
    · rw [drop_nth h6, drop_nth (by omega : i < es2.length), eqL] at h5
      have h8 : eqMg [PV.int IntKind.i64 (nth (nth es i).A 0).I, PV.int IntKind.i64 (nth (nth es i).A 1).I, PV.int IntKind.i64 (nth (nth es i).A 2).I, PV.int IntKind.i64 (nth (nth es i).A 3).I, PV.int IntKind.i64 (nth (nth es i).A 4).I, PV.int IntKind.i64 (nth (nth es i).A 5).I,
            PV.int IntKind.i64 (nth (nth es i).A 6).I, PV.bool (nth (nth es i).A 7).B, PV.list (nth (nth es i).A 8).L]
          [PV.int IntKind.i64 (nth (nth es2 i).A 0).I, PV.int IntKind.i64 (nth (nth es2 i).A 1).I, PV.int IntKind.i64 (nth (nth es2 i).A 2).I, PV.int IntKind.i64 (nth (nth es2 i).A 3).I, PV.int IntKind.i64 (nth (nth es2 i).A 4).I, PV.int IntKind.i64 (nth (nth es2 i).A 5).I,
            PV.int IntKind.i64 (nth (nth es2 i).A 6).I, PV.bool (nth (nth es2 i).A 7).B, PV.list (nth (nth es2 i).A 8).L] = eqMg2 (nth es i) (nth es2 i) := rfl
      rw [wrap64 (by omega), h8]
      refine ⟨fun h7 => by rw [h5]; simp [h7], fun h7 => ⟨⟨i + 1, by omega, by omega, by rw [h5]; simp [h7]⟩, by omega⟩⟩
    · rw [h5, List.drop_eq_nil_of_le h6, List.drop_eq_nil_of_le (by omega)]; rfl

def c_markNode : FSpec := ⟨[(.mt, .agg [.int .i64, .int .i64, .int .i64, .int .i64, .int .i64, .bool, .list (.agg [.int .i64, .str]), .int .i64, .int .i64, .int .i64, .list (.int .i64), .list (.int .i64), .list (.int .i64)]), (.rd, .int .i64)], [.int .i64], true, fun ps => 0 ≤ (nth ps 1).I ∧ (nth ps 1).I + 2 * (nth (nth ps 0).A 6).L.length + (nth (nth ps 0).A 10).L.length + (nth (nth ps 0).A 11).L.length + (nth (nth ps 0).A 12).L.length ≤ 1073741823,
  fun ps => [.int .i64 ((nth ps 1).I + 2 * (nth (nth ps 0).A 6).L.length + (nth (nth ps 0).A 10).L.length + (nth (nth ps 0).A 11).L.length + (nth (nth ps 0).A 12).L.length)],
  fun ps => [.agg [nth (nth ps 0).A 0, nth (nth ps 0).A 1, nth (nth ps 0).A 2, nth (nth ps 0).A 3, nth (nth ps 0).A 4, nth (nth ps 0).A 5, .list (markR (nth ps 1).I (nth (nth ps 0).A 6).L.length), nth (nth ps 0).A 7, nth (nth ps 0).A 8, nth (nth ps 0).A 9,
    .list (markI ((nth ps 1).I + 2 * (nth (nth ps 0).A 6).L.length) (nth (nth ps 0).A 10).L.length), .list (markI ((nth ps 1).I + 2 * (nth (nth ps 0).A 6).L.length + (nth (nth ps 0).A 10).L.length) (nth (nth ps 0).A 11).L.length),
    .list (markI ((nth ps 1).I + 2 * (nth (nth ps 0).A 6).L.length + (nth (nth ps 0).A 10).L.length + (nth (nth ps 0).A 11).L.length) (nth (nth ps 0).A 12).L.length)]]⟩
theorem k_markNode : FnOk Try.prog 22 c_markNode := by
  refine fn_mk [0, 1, 2, 4] [.tmp 4] (env_cons (cs := []) k_markIntS (env_cons (cs := []) k_markEntryS (env_nil (tyTab_ok [])))) mixed Try.func22 rfl (by decide) rfl (by decide) rfl ?_
  intro ps hT hpre W hW
  simp only [c_markNode, TyA, Ty, Tys] at hT hpre
  obtain ⟨_, _, rfl, ⟨_, rfl, _, _, rfl, ⟨n0, rfl, hn0⟩, _, _, rfl, ⟨n1, rfl, hn1⟩, _, _, rfl, ⟨n2, rfl, hn2⟩, _, _, rfl, ⟨n3, rfl, hn3⟩, _, _, rfl, ⟨n4, rfl, hn4⟩, _, _, rfl, ⟨u, rfl⟩, _, _, rfl, ⟨es, rfl, hes, tes⟩, _, _, rfl, ⟨n5, rfl, hn5⟩, _, _, rfl, ⟨n6, rfl, hn6⟩, _, _, rfl, ⟨n7, rfl, hn7⟩, _, _, rfl, ⟨vs, rfl, hvs, tvs⟩, _, _, rfl, ⟨xs, rfl, hxs, txs⟩, _, _, rfl, ⟨ms, rfl, hms, tms⟩, rfl⟩, _, _, rfl, ⟨k, rfl, hk⟩, rfl⟩ := hT
  simp only [nth_zero, nth_succ, pv_I, pv_L, pv_A] at hpre
  refine hW.vc [] _ _ ?_
  simp [-List.getD_eq_getElem?_getD, c_markNode, c_markEntryS, c_markIntS]
  exact ⟨by omega, by omega, by omega, by omega⟩
def heldN (k : Int) (es vs xs ms : List PV) : Int :=
  if heldGo heldR1 2 k es < 0 then -1 else if heldGo heldI1 1 (heldGo heldR1 2 k es) vs < 0 then -1 else if heldGo heldI1 1 (heldGo heldI1 1 (heldGo heldR1 2 k es) vs) xs < 0 then -1 else
    heldGo heldI1 1 (heldGo heldI1 1 (heldGo heldI1 1 (heldGo heldR1 2 k es) vs) xs) ms
theorem heldN_mark {k : Int} (h : 0 ≤ k) (a b c d : Nat) : heldN k (markR k a) (markI (k + 2 * a) b) (markI (k + 2 * a + b) c) (markI (k + 2 * a + b + c) d) = k + 2 * a + b + c + d := by
  simp only [heldN, heldR_mark, heldI_mark]
  rw [if_neg (by omega), if_neg (by omega), if_neg (by omega)]
theorem held_le {f : Int → PV → Bool} {d : Int} (hd : 0 ≤ d) : ∀ {es : List PV} {k : Int}, 0 ≤ k → heldGo f d k es = -1 ∨ heldGo f d k es = k + d * es.length
  | [], k, hk => by simp [heldGo]
  | e :: es, k, hk => by
    simp only [heldGo]
    split
    · rcases held_le hd (es := es) (k := k + d) (by omega) with h | h
      · exact .inl h
      · refine .inr ?_
        rw [h, List.length_cons, Int.natCast_add, Int.mul_add]; omega
    · exact .inl rfl
def c_heldNode : FSpec := ⟨[(.rd, .agg [.int .i64, .int .i64, .int .i64, .int .i64, .int .i64, .bool, .list (.agg [.int .i64, .str]), .int .i64, .int .i64, .int .i64, .list (.int .i64), .list (.int .i64), .list (.int .i64)]), (.rd, .int .i64)], [.int .i64], true, fun ps => 0 ≤ (nth ps 1).I ∧ (nth ps 1).I + 2 * (nth (nth ps 0).A 6).L.length + (nth (nth ps 0).A 10).L.length + (nth (nth ps 0).A 11).L.length + (nth (nth ps 0).A 12).L.length ≤ 1073741823,
  fun ps => [.int .i64 (heldN (nth ps 1).I (nth (nth ps 0).A 6).L (nth (nth ps 0).A 10).L (nth (nth ps 0).A 11).L (nth (nth ps 0).A 12).L)], fun _ => []⟩
theorem k_heldNode : FnOk Try.prog 24 c_heldNode := by
  refine fn_mk [0, 1, 2, 4] [.tmp 4] (env_cons (cs := []) k_heldIntS (env_cons (cs := []) k_heldEntryS (env_nil (tyTab_ok [])))) mixed Try.func24 rfl (by decide) rfl (by decide) rfl ?_
  intro ps hT hpre W hW
  simp only [c_heldNode, TyA, Ty, Tys] at hT hpre
  obtain ⟨_, _, rfl, ⟨_, rfl, _, _, rfl, ⟨n0, rfl, hn0⟩, _, _, rfl, ⟨n1, rfl, hn1⟩, _, _, rfl, ⟨n2, rfl, hn2⟩, _, _, rfl, ⟨n3, rfl, hn3⟩, _, _, rfl, ⟨n4, rfl, hn4⟩, _, _, rfl, ⟨u, rfl⟩, _, _, rfl, ⟨es, rfl, hes, tes⟩, _, _, rfl, ⟨n5, rfl, hn5⟩, _, _, rfl, ⟨n6, rfl, hn6⟩, _, _, rfl, ⟨n7, rfl, hn7⟩, _, _, rfl, ⟨vs, rfl, hvs, tvs⟩, _, _, rfl, ⟨xs, rfl, hxs, txs⟩, _, _, rfl, ⟨ms, rfl, hms, tms⟩, rfl⟩, _, _, rfl, ⟨k, rfl, hk⟩, rfl⟩ := hT
  simp only [nth_zero, nth_succ, pv_I, pv_L, pv_A] at hpre
  refine hW.vc [] _ _ ?_
  simp [-List.getD_eq_getElem?_getD, c_heldNode, c_heldEntryS, c_heldIntS]
  have a1 := held_le (f := heldR1) (d := 2) (by omega) (es := es) hpre.1
  refine ⟨⟨hpre.1, by omega⟩, fun q => by rw [heldN, if_pos q], fun q => ?_⟩
  have a2 := held_le (f := heldI1) (d := 1) (by omega) (es := vs) q
  refine ⟨⟨q, by omega⟩, fun q2 => by rw [heldN, if_neg (by omega), if_pos q2], fun q2 => ?_⟩
  have a3 := held_le (f := heldI1) (d := 1) (by omega) (es := xs) q2
  refine ⟨⟨q2, by omega⟩, fun q3 => by rw [heldN, if_neg (by omega), if_neg (by omega), if_pos q3], fun q3 => ?_⟩
  have a4 := held_le (f := heldI1) (d := 1) (by omega) (es := ms) q3
  have e : heldN k es vs xs ms = heldGo heldI1 1 (heldGo heldI1 1 (heldGo heldI1 1 (heldGo heldR1 2 k es) vs) xs) ms := by rw [heldN, if_neg (by omega), if_neg (by omega), if_neg (by omega)]
  exact ⟨⟨q3, by omega⟩, fun q4 => by rw [e]; omega, fun _ => e.symm⟩

end Go.Proofs.Ytmjjdfhpnckacab
end

section
namespace Go.Proofs.Ytmjjdfhpnckacab
set_option maxRecDepth 100000
set_option linter.unusedSimpArgs false

def msN (e : PV) : Int := 8 + 2 * (nth e.A 8).L.length
def mod3 (k : Int) : Bool := k.tmod 3 == 0
def mkM (k : Int) (e : PV) : PV := .agg [.int .i64 k, .int .i64 (k + 1), .int .i64 (k + 2), .int .i64 (k + 3), .int .i64 (k + 4), .int .i64 (k + 5), .int .i64 (k + 6), .bool (mod3 (k + 7)), .list (markR (k + 8) (nth e.A 8).L.length)]
def sumMs (k : Int) : List PV → Int
  | [] => k
  | e :: es => sumMs (k + msN e) es
def markMs (k : Int) : List PV → List PV
  | [] => []
  | e :: es => mkM k e :: markMs (k + msN e) es
theorem sumMs_snoc (x : PV) : ∀ (es : List PV) (k : Int), sumMs k (es ++ [x]) = sumMs k es + msN x
  | [], k => rfl
  | e :: es, k => by simp only [List.cons_append, sumMs]; exact sumMs_snoc x es _
theorem markMs_snoc (x : PV) : ∀ (es : List PV) (k : Int), markMs k (es ++ [x]) = markMs k es ++ [mkM (sumMs k es) x]
  | [], k => rfl
  | e :: es, k => by simp only [List.cons_append, markMs, sumMs]; rw [markMs_snoc x es]
theorem markMs_len : ∀ (es : List PV) (k : Int), (markMs k es).length = es.length
  | [], k => rfl
  | e :: es, k => by simp only [markMs, List.length_cons, markMs_len es]
theorem sumMs_ge : ∀ (es : List PV) (k : Int), k ≤ sumMs k es
  | [], k => Int.le_refl _
  | e :: es, k => by have := sumMs_ge es (k + msN e); simp only [sumMs]; unfold msN at *; omega
theorem sumMs_take (es : List PV) (k : Int) {i : Nat} (h : i < es.length) : sumMs k (es.take i) + msN (nth es i) ≤ sumMs k es := by
  induction es generalizing k i with
  | nil => simp at h
  | cons e es ih =>
    cases i with
    | zero => rw [nth_zero]; exact sumMs_ge es (k + msN e)
    | succ i => rw [nth_succ]; exact ih (k + msN e) (by simpa using h)
/-- Twice marked is once marked. -/
theorem msN_mk (k : Int) (e : PV) : msN (mkM k e) = msN e := by simp [msN, mkM, nth_zero, nth_succ, pv_A, pv_L, markR_len]

def c_markMessageS : FSpec := ⟨[(.mt, .list (.agg [.int .i64, .int .i64, .int .i64, .int .i64, .int .i64, .int .i64, .int .i64, .bool, .list (.agg [.int .i64, .str])])), (.rd, .int .i64)], [.int .i64], true, fun ps => 0 ≤ (nth ps 1).I ∧ sumMs (nth ps 1).I (nth ps 0).L ≤ 1073741823, fun ps => [.int .i64 (sumMs (nth ps 1).I (nth ps 0).L)], fun ps => [.list (markMs (nth ps 1).I (nth ps 0).L)]⟩
theorem k_markMessageS : FnOk Try.prog 23 c_markMessageS := by
  refine fn_mk [0, 1, 4, 5] [.tmp 4] (env_cons (cs := []) k_markEntryS (env_nil (tyTab_ok []))) mixed Try.func23 rfl (by decide) rfl (by decide) rfl ?_
  intro ps hT hpre W hW
  simp only [c_markMessageS, TyA, Ty, Tys] at hT hpre
  obtain ⟨_, _, rfl, ⟨es, rfl, hes, tes⟩, _, _, rfl, ⟨k, rfl, hk⟩, rfl⟩ := hT
  simp only [nth_zero, nth_succ, pv_I, pv_L] at hpre
  refine hW.vc [] _ _ ?_
  simp [-List.getD_eq_getElem?_getD, c_markMessageS, c_markEntryS]
  refine hW.loopS _ _ _ [.ar 0 (.agg [.int .i64, .int .i64, .int .i64, .int .i64, .int .i64, .int .i64, .int .i64, .bool, .list (.agg [.int .i64, .str])]), .sl 1 .dp (.int .i64), .sl 5 .dp (.int .i64)] (fun ys => ∃ i : Nat, ys = [.list (markMs k (es.take i) ++ es.drop i), .int .i64 (sumMs k (es.take i)), .int .i64 i] ∧ i ≤ es.length) (fun ys => es.length - (nth ys 2).I.toNat) ?_ ?_
  · simp [-List.getD_eq_getElem?_getD, c_markMessageS, c_markEntryS]
    exact ⟨0, ⟨by simp [markMs], by simp [sumMs], rfl⟩, by omega⟩
  · rintro ys ⟨i, rfl, h2⟩
    by_cases h3 : i < es.length
    · have h4 : i < (markMs k (es.take i) ++ es.drop i).length := by rw [List.length_append, markMs_len, List.length_take, List.length_drop]; omega
      have h5 : (markMs k (es.take i) ++ es.drop i).length = es.length := by rw [List.length_append, markMs_len, List.length_take, List.length_drop]; omega
      obtain ⟨L, hL⟩ : ∃ L, L = markMs k (es.take i) ++ es.drop i := ⟨_, rfl⟩
      obtain ⟨K, hK⟩ : ∃ K, K = sumMs k (es.take i) := ⟨_, rfl⟩
      rw [← hL] at h4 h5
      rw [← hL, ← hK]
      have h6 : ∀ x, nth (L.set i x) i = x := fun x => nth_set h4
      refine hW.vc [] _ _ ?_
      simp [-List.getD_eq_getElem?_getD, c_markMessageS, c_markEntryS, h6]
      have g1 := sumMs_take es k h3
      have g2 := sumMs_ge (es.take i) k
      rw [← hK] at g1 g2
      have g3 : nth L i = nth es i := by rw [hL, drop_nth h3]; simp [nth, List.getElem?_append_right, markMs_len, List.length_take, Nat.min_eq_left h2]
      have g4 : msN (nth es i) = 8 + 2 * (nth (nth es i).A 8).L.length := rfl
      rw [g3]
      have e1 : IntKind.i64.wrap (K + 1) = K + 1 := wrap64 (by omega)
      have e2 : IntKind.i64.wrap (K + 1 + 1) = K + 2 := by rw [wrap64 (by omega)]; omega
      have e3 : IntKind.i64.wrap (K + 2 + 1) = K + 3 := by rw [wrap64 (by omega)]; omega
      have e4 : IntKind.i64.wrap (K + 3 + 1) = K + 4 := by rw [wrap64 (by omega)]; omega
      have e5 : IntKind.i64.wrap (K + 4 + 1) = K + 5 := by rw [wrap64 (by omega)]; omega
      have e6 : IntKind.i64.wrap (K + 5 + 1) = K + 6 := by rw [wrap64 (by omega)]; omega
      have e7 : IntKind.i64.wrap (K + 6 + 1) = K + 7 := by rw [wrap64 (by omega)]; omega
      have e8 : IntKind.i64.wrap (K + 7 + 1) = K + 8 := by rw [wrap64 (by omega)]; omega
      have e9 : IntKind.i64.wrap ((i : Int) + 1) = (i : Int) + 1 := wrap64 (by rw [LIM] at hes; omega)
      simp only [e1, e2, e3, e4, e5, e6, e7, e8, e9]
      refine fun _ => ⟨fun _ => ⟨h4, fun _ => ⟨⟨by omega, by omega⟩, ⟨i + 1, ⟨?_, ?_, by omega⟩, by omega⟩, by omega⟩⟩, fun h => by omega⟩
      · rw [take_nth h3, markMs_snoc, hL]
        exact mark_step (by rw [markMs_len, List.length_take]; omega) h3 (by rw [hK]; rfl)
      · rw [take_nth h3, sumMs_snoc, ← hK, g4]; omega
    · have : i = es.length := by omega
      subst this
      have h4 : markMs k (es.take es.length) ++ es.drop es.length = markMs k es := by simp
      have h5 : (markMs k es).length = es.length := markMs_len es k
      rw [h4, List.take_length]
      obtain ⟨L, hL⟩ : ∃ L, L = markMs k es := ⟨_, rfl⟩
      rw [← hL] at h5 ⊢
      have h6 : ∀ x, nth (L.set es.length x) es.length = PV.d := fun x => by simp [nth, h5]
      refine hW.vc [] _ _ ?_
      simp [-List.getD_eq_getElem?_getD, c_markMessageS, c_markEntryS, h6, h5]
      exact fun _ => hL

def heldM1 (k : Int) (e : PV) : Bool := (nth e.A 0).I == k && (nth e.A 1).I == k + 1 && (nth e.A 2).I == k + 2 && (nth e.A 3).I == k + 3 && (nth e.A 4).I == k + 4 && (nth e.A 5).I == k + 5 && (nth e.A 6).I == k + 6 && (nth e.A 7).B == mod3 (k + 7) && heldGo heldR1 2 (k + 8) (nth e.A 8).L == k + msN e
def heldMs (k : Int) : List PV → Int
  | [] => k
  | e :: es => if heldM1 k e then heldMs (k + msN e) es else -1
theorem heldMs_mark : ∀ (es : List PV) (k : Int), heldMs k (markMs k es) = sumMs k es
  | [], k => rfl
  | e :: es, k => by
    rw [markMs, heldMs, if_pos, msN_mk, heldMs_mark es, sumMs]
    rw [heldM1, msN_mk]
    simp [mkM, msN, nth_zero, nth_succ, pv_A, pv_I, pv_L, pv_B, heldR_mark]
    omega
def c_heldMessageS : FSpec := ⟨[(.rd, .list (.agg [.int .i64, .int .i64, .int .i64, .int .i64, .int .i64, .int .i64, .int .i64, .bool, .list (.agg [.int .i64, .str])])), (.rd, .int .i64)], [.int .i64], true, fun ps => 0 ≤ (nth ps 1).I ∧ sumMs (nth ps 1).I (nth ps 0).L ≤ 1073741823, fun ps => [.int .i64 (heldMs (nth ps 1).I (nth ps 0).L)], fun _ => []⟩
set_option maxHeartbeats 1000000 in
theorem k_heldMessageS : FnOk Try.prog 25 c_heldMessageS := by
  refine fn_mk [0, 1, 4, 5] [.tmp 4] (env_cons (cs := []) k_heldEntryS (env_nil (tyTab_ok []))) mixed Try.func25 rfl (by decide) rfl (by decide) rfl ?_
  intro ps hT hpre W hW
  simp only [c_heldMessageS, TyA, Ty, Tys] at hT hpre
  obtain ⟨_, _, rfl, ⟨es, rfl, hes, tes⟩, _, _, rfl, ⟨k, rfl, hk⟩, rfl⟩ := hT
  simp only [nth_zero, nth_succ, pv_I, pv_L] at hpre
  refine hW.vc [] _ _ ?_
  simp [-List.getD_eq_getElem?_getD, c_heldMessageS, c_heldEntryS]
  refine hW.loopS _ _ _ [.sl 1 .dp (.int .i64), .sl 5 .dp (.int .i64)] (fun ys => ∃ i : Nat, ys = [.int .i64 (sumMs k (es.take i)), .int .i64 i] ∧ i ≤ es.length ∧ heldMs k es = heldMs (sumMs k (es.take i)) (es.drop i)) (fun ys => es.length - (nth ys 1).I.toNat) ?_ ?_
  · simp [-List.getD_eq_getElem?_getD, c_heldMessageS, c_heldEntryS]
    exact ⟨0, ⟨by simp [sumMs], rfl⟩, by omega, by simp [sumMs]⟩
  · rintro ys ⟨i, rfl, h2, h3⟩
    refine hW.vc [] _ _ ?_
    simp [-List.getD_eq_getElem?_getD, c_heldMessageS, c_heldEntryS]
    by_cases h4 : i < es.length
    · have g1 := sumMs_take es k h4
      have g2 := sumMs_ge (es.take i) k
      obtain ⟨K, hK⟩ : ∃ K, K = sumMs k (es.take i) := ⟨_, rfl⟩
      rw [← hK] at g1 g2 h3 ⊢
      have g4 : msN (nth es i) = 8 + 2 * (nth (nth es i).A 8).L.length := rfl
      rw [drop_nth h4, heldMs] at h3
      have no : heldM1 K (nth es i) = false → heldMs k es = -1 := fun q => by rw [h3, if_neg (by rw [q]; simp)]
      have e1 : IntKind.i64.wrap (K + 1) = K + 1 := wrap64 (by omega)
      have e2 : IntKind.i64.wrap (K + 1 + 1) = K + 2 := by rw [wrap64 (by omega)]; omega
      have e3 : IntKind.i64.wrap (K + 2 + 1) = K + 3 := by rw [wrap64 (by omega)]; omega
      have e4 : IntKind.i64.wrap (K + 3 + 1) = K + 4 := by rw [wrap64 (by omega)]; omega
      have e5 : IntKind.i64.wrap (K + 4 + 1) = K + 5 := by rw [wrap64 (by omega)]; omega
      have e6 : IntKind.i64.wrap (K + 5 + 1) = K + 6 := by rw [wrap64 (by omega)]; omega
      have e7 : IntKind.i64.wrap (K + 6 + 1) = K + 7 := by rw [wrap64 (by omega)]; omega
      have e8 : IntKind.i64.wrap (K + 7 + 1) = K + 8 := by rw [wrap64 (by omega)]; omega
      have e9 : IntKind.i64.wrap ((i : Int) + 1) = (i : Int) + 1 := wrap64 (by rw [LIM] at hes; omega)
      simp only [e1, e2, e3, e4, e5, e6, e7, e8, e9]
      have b1 : 0 ≤ K + 8 ∧ K + 8 + 2 * ((nth (nth es i).A 8).L.length : Int) ≤ 1073741823 := ⟨by omega, by omega⟩
      have a1 := held_le (f := heldR1) (d := 2) (by omega) (es := (nth (nth es i).A 8).L) (k := K + 8) (by omega)
      obtain ⟨H, hH⟩ : ∃ H, H = heldGo heldR1 2 (K + 8) (nth (nth es i).A 8).L := ⟨_, rfl⟩
      rw [← hH] at a1 ⊢
      have b2 : H < 0 → ¬ H = K + msN (nth es i) := fun _ => by omega
      have b3 : 0 ≤ H → H = K + msN (nth es i) := fun _ => by omega
      have b4 : es.length ≤ i → False := fun _ => by omega
      have b5 : (i : Int) + 1 = ((i + 1 : Nat) : Int) := rfl
      have b6 : i + 1 ≤ es.length := h4
      have b7 : es.length - ((i : Int) + 1).toNat < es.length - i := by omega
      refine fun _ => ⟨fun _ => ⟨h4, fun _ => ⟨fun q => (no (by simp [heldM1, q])).symm, fun q0 => ⟨h4, fun _ => ⟨fun q => (no (by simp [heldM1, q])).symm, fun q1 => ⟨h4, fun _ => ⟨fun q => (no (by simp [heldM1, q])).symm, fun q2 =>
        ⟨h4, fun _ => ⟨fun q => (no (by simp [heldM1, q])).symm, fun q3 => ⟨h4, fun _ => ⟨fun q => (no (by simp [heldM1, q])).symm, fun q4 => ⟨h4, fun _ => ⟨fun q => (no (by simp [heldM1, q])).symm, fun q5 =>
        ⟨h4, fun _ => ⟨fun q => (no (by simp [heldM1, q])).symm, fun q6 => ⟨h4, fun _ => ⟨fun q => (no (by simp [heldM1, mod3, q])).symm, fun q7 => ⟨h4, fun _ => ?_⟩⟩⟩⟩⟩⟩⟩⟩⟩⟩⟩⟩⟩⟩⟩⟩⟩, fun h => (b4 h).elim⟩
      refine ⟨b1, fun q => (no ?_).symm, fun q8 => ?_⟩
      · have := b2 q
        rw [hH] at this
        simp [heldM1, this]
      · have a2 := b3 q8
        have a3 : heldM1 K (nth es i) = true := by rw [hH] at a2; simp [heldM1, q0, q1, q2, q3, q4, q5, q6, q7, a2, mod3]
        rw [if_pos a3] at h3
        refine ⟨⟨i + 1, ⟨?_, b5⟩, b6, ?_⟩, b7⟩
        · rw [take_nth h4, sumMs_snoc, ← hK, a2]
        · rw [take_nth h4, sumMs_snoc, ← hK, h3]
    · have : i = es.length := by omega
      subst this
      refine fun _ => ⟨fun h => absurd h (Nat.lt_irrefl _), fun _ => ?_⟩
      rw [h3, List.drop_length]; rfl

end Go.Proofs.Ytmjjdfhpnckacab
end

