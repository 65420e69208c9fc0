/-
  Part 7 of the proof of FnNode: a verification-condition generator over the program and the contracts of its functions, in the order of their use.
  Conditions: none.
-/
import Derived.Test.YtkofjkjcbljkdaaM6
set_option linter.unusedVariables false
set_option linter.unusedSimpArgs false
set_option linter.unusedSectionVars false

section
namespace Go.Proofs.Ytkofjkjcbljkdaa
variable [LaidG]
set_option maxRecDepth 100000
set_option linter.unusedSimpArgs false

theorem wrapU8 {n : Int} (h : 0 ≤ n ∧ n ≤ 255) : IntKind.u8.wrap n = n := by
  simp [IntKind.wrap, IntKind.signed, IntKind.bits]; omega

def digs (n : Nat) : List UInt8 := if h : n = 0 then [] else digs (n / 10) ++ [UInt8.ofNat (48 + n % 10)]
termination_by n
decreasing_by omega
def mtext (k : Int) : List UInt8 := if k ≤ 0 then [109, 48] else 109 :: digs k.toNat

def c_markText : FSpec := ⟨[(.rd, .int .i64)], [.str], true, fun ps => (nth ps 0).I ≤ 1073741824, fun ps => [.str (mtext (nth ps 0).I)], fun _ => []⟩
def markS (k : Int) : Nat → List PV
  | 0 => []
  | n + 1 => .str (mtext k) :: markS (k + 1) n
theorem markS_len : ∀ (n : Nat) (k : Int), (markS k n).length = n
  | 0, _ => rfl
  | n + 1, k => by simp [markS, markS_len n]
theorem markS_snoc : ∀ (n : Nat) (k : Int), markS k (n + 1) = markS k n ++ [.str (mtext (k + n))]
  | 0, k => by simp [markS]
  | n + 1, k => by
    rw [markS, markS_snoc n (k + 1), markS, List.cons_append]
    simp only [List.cons.injEq, true_and, List.append_cancel_left_eq, and_true, PV.str.injEq]
    congr 1; omega

theorem nth_set {l : List PV} {i : Nat} {x : PV} (h : i < l.length) : nth (l.set i x) i = x := by simp [nth, h]
theorem mark_step {m es : List PV} {i : Nat} {x : PV} {m' : List PV} (h1 : m.length = i) (h2 : i < es.length) (h3 : m' = m ++ [x]) : (m ++ es.drop i).set i x = m' ++ es.drop (i + 1) := by
  subst h3
  rw [List.set_append_right _ _ (by omega), h1, Nat.sub_self, drop_nth h2, List.set_cons_zero, List.append_assoc, List.singleton_append]

def c_markStringS : FSpec := ⟨[(.mt, .list .str), (.rd, .int .i64)], [.int .i64], true, fun ps => 0 ≤ (nth ps 1).I ∧ (nth ps 1).I + (nth ps 0).L.length ≤ 1073741824, fun ps => [.int .i64 ((nth ps 1).I + (nth ps 0).L.length)], fun ps => [.list (markS (nth ps 1).I (nth ps 0).L.length)]⟩
def heldGo (f : Int → PV → Bool) (d : Int) (k : Int) : List PV → Int
  | [] => k
  | e :: es => if f k e then heldGo f d (k + d) es else -1
theorem held_neg {f : Int → PV → Bool} {d : Int} (hd : 0 ≤ d) : ∀ {es : List PV} {k : Int}, 0 ≤ k → heldGo f d k es < 0 → heldGo f d k es = -1
  | [], k, hk, h => by simp only [heldGo] at h; omega
  | e :: es, k, hk, h => by
    simp only [heldGo] at h ⊢
    split
    · rename_i h1
      rw [if_pos h1] at h
      exact held_neg hd (by omega) h
    · rfl
def heldS1 (k : Int) (e : PV) : Bool := e.S == mtext k
theorem held_marked {f : Int → PV → Bool} {d : Int} {m : Int → Nat → List PV} (h0 : ∀ k, m k 0 = []) (h1 : ∀ k n, ∃ x, m k (n + 1) = x :: m (k + d) n ∧ f k x = true) : ∀ (n : Nat) (k : Int), heldGo f d k (m k n) = k + d * n
  | 0, k => by simp [h0, heldGo]
  | n + 1, k => by
    obtain ⟨x, h2, h3⟩ := h1 k n
    rw [h2, heldGo, if_pos h3, held_marked h0 h1 n, Int.natCast_add, Int.mul_add]; omega
theorem heldS_mark (n : Nat) (k : Int) : heldGo heldS1 1 k (markS k n) = k + n := by
  rw [held_marked (m := markS) (fun _ => rfl) (fun k n => ⟨_, rfl, by simp [heldS1, pv_S]⟩), Int.one_mul]

def c_heldStringS : FSpec := ⟨[(.rd, .list .str), (.rd, .int .i64)], [.int .i64], true, fun ps => 0 ≤ (nth ps 1).I ∧ (nth ps 1).I + (nth ps 0).L.length ≤ 1073741824, fun ps => [.int .i64 (heldGo heldS1 1 (nth ps 1).I (nth ps 0).L)], fun _ => []⟩
/-- Rows marked. -/
def markR (k : Int) : Nat → List PV
  | 0 => []
  | n + 1 => .agg [.int .i64 k, .str (mtext (k + 1))] :: markR (k + 2) n
theorem markR_len : ∀ (n : Nat) (k : Int), (markR k n).length = n
  | 0, _ => rfl
  | n + 1, k => by simp [markR, markR_len n]
theorem markR_snoc : ∀ (n : Nat) (k : Int), markR k (n + 1) = markR k n ++ [.agg [.int .i64 (k + 2 * n), .str (mtext (k + 2 * n + 1))]]
  | 0, k => by simp [markR]
  | n + 1, k => by
    rw [markR, markR_snoc n (k + 2), markR, List.cons_append]
    have e : k + 2 + 2 * (n : Int) = k + 2 * ((n + 1 : Nat) : Int) := by omega
    rw [e]
def c_markRowS : FSpec := ⟨[(.mt, .list (.agg [.int .i64, .str])), (.rd, .int .i64)], [.int .i64], true, fun ps => 0 ≤ (nth ps 1).I ∧ (nth ps 1).I + 2 * (nth ps 0).L.length ≤ 1073741823, fun ps => [.int .i64 ((nth ps 1).I + 2 * (nth ps 0).L.length)], fun ps => [.list (markR (nth ps 1).I (nth ps 0).L.length)]⟩
def heldR1 (k : Int) (e : PV) : Bool := (nth e.A 0).I == k && (nth e.A 1).S == mtext (k + 1)
theorem heldR_mark (n : Nat) (k : Int) : heldGo heldR1 2 k (markR k n) = k + 2 * n := by
  rw [held_marked (m := markR) (fun _ => rfl) (fun k n => ⟨_, rfl, by simp [heldR1, pv_S, pv_I, pv_A, nth_zero, nth_succ]⟩)]

def c_heldRowS : FSpec := ⟨[(.rd, .list (.agg [.int .i64, .str])), (.rd, .int .i64)], [.int .i64], true, fun ps => 0 ≤ (nth ps 1).I ∧ (nth ps 1).I + 2 * (nth ps 0).L.length ≤ 1073741823, fun ps => [.int .i64 (heldGo heldR1 2 (nth ps 1).I (nth ps 0).L)], fun _ => []⟩
def c_markView : FSpec := ⟨[(.mt, .agg [.int .i64, .int .i64, .bool, .int .i64, .int .i64, .list (.agg [.int .i64, .str])]), (.rd, .int .i64)], [.int .i64], true, fun ps => 0 ≤ (nth ps 1).I ∧ (nth ps 1).I + 2 * (nth (nth ps 0).A 5).L.length ≤ 1073741823, fun ps => [.int .i64 ((nth ps 1).I + 2 * (nth (nth ps 0).A 5).L.length)],
  fun ps => [.agg [nth (nth ps 0).A 0, nth (nth ps 0).A 1, nth (nth ps 0).A 2, nth (nth ps 0).A 3, nth (nth ps 0).A 4, .list (markR (nth ps 1).I (nth (nth ps 0).A 5).L.length)]]⟩
def c_heldView : FSpec := ⟨[(.rd, .agg [.int .i64, .int .i64, .bool, .int .i64, .int .i64, .list (.agg [.int .i64, .str])]), (.rd, .int .i64)], [.int .i64], true, fun ps => 0 ≤ (nth ps 1).I ∧ (nth ps 1).I + 2 * (nth (nth ps 0).A 5).L.length ≤ 1073741823, fun ps => [.int .i64 (heldGo heldR1 2 (nth ps 1).I (nth (nth ps 0).A 5).L)], fun _ => []⟩
def c_markMirror : FSpec := ⟨[(.mt, .agg [.int .i64, .int .i64, .int .i64, .list .str]), (.rd, .int .i64)], [.int .i64], true, fun ps => 0 ≤ (nth ps 1).I ∧ (nth ps 1).I + (nth (nth ps 0).A 3).L.length ≤ 1073741823, fun ps => [.int .i64 ((nth ps 1).I + (nth (nth ps 0).A 3).L.length)],
  fun ps => [.agg [nth (nth ps 0).A 0, nth (nth ps 0).A 1, nth (nth ps 0).A 2, .list (markS (nth ps 1).I (nth (nth ps 0).A 3).L.length)]]⟩
def c_heldMirror : FSpec := ⟨[(.rd, .agg [.int .i64, .int .i64, .int .i64, .list .str]), (.rd, .int .i64)], [.int .i64], true, fun ps => 0 ≤ (nth ps 1).I ∧ (nth ps 1).I + (nth (nth ps 0).A 3).L.length ≤ 1073741823, fun ps => [.int .i64 (heldGo heldS1 1 (nth ps 1).I (nth (nth ps 0).A 3).L)], fun _ => []⟩
end Go.Proofs.Ytkofjkjcbljkdaa
end

section
namespace Go.Proofs.Ytkofjkjcbljkdaa
variable [LaidG]
set_option maxRecDepth 100000
set_option linter.unusedSimpArgs false

def numB (l : List UInt8) : Int := l.foldl (fun n b => n * 256 + b.toNat) 0
theorem numB_snoc (l : List UInt8) (b : UInt8) : numB (l ++ [b]) = numB l * 256 + b.toNat := by simp [numB]
theorem numB_take {l : List UInt8} {i : Nat} (h : i < l.length) : numB (l.take (i + 1)) = numB (l.take i) * 256 + (l.getD i 0).toNat := by
  rw [List.take_succ_eq_append_getElem h, numB_snoc]; simp [h]
theorem numB_bound : ∀ (n : Nat) (l : List UInt8), l.length = n → 0 ≤ numB l ∧ numB l < 256 ^ n
  | 0, l, h => by have := List.eq_nil_of_length_eq_zero h; subst this; simp [numB]
  | n + 1, l, h => by
    have h0 : l ≠ [] := by intro e; subst e; simp at h
    have h1 := List.dropLast_concat_getLast h0
    have h2 := numB_bound n l.dropLast (by simp [h])
    have h3 := (l.getLast h0).toNat_lt
    rw [← h1, numB_snoc, Int.pow_succ]
    omega
theorem numB_le {l : List UInt8} (h : l.length ≤ 7) (i : Nat) : 0 ≤ numB (l.take i) ∧ numB (l.take i) < 72057594037927936 := by
  have h1 := numB_bound (l.take i).length (l.take i) rfl
  refine ⟨h1.1, Int.lt_of_lt_of_le h1.2 ?_⟩
  have h2 : (l.take i).length ≤ 7 := by simp; omega
  have h3 : (256 : Int) ^ (l.take i).length ≤ 256 ^ 7 := by
    have := Nat.pow_le_pow_right (n := 256) (by decide) h2
    exact_mod_cast this
  exact Int.le_trans h3 (by decide)
theorem numB_le6 {l : List UInt8} (h : l.length ≤ 7) {i : Nat} (hi : i < l.length) : 0 ≤ numB (l.take i) ∧ numB (l.take i) < 281474976710656 := by
  have h1 := numB_bound (l.take i).length (l.take i) rfl
  refine ⟨h1.1, Int.lt_of_lt_of_le h1.2 ?_⟩
  have h2 : (l.take i).length ≤ 6 := by simp; omega
  have h3 : (256 : Int) ^ (l.take i).length ≤ 256 ^ 6 := by
    have := Nat.pow_le_pow_right (n := 256) (by decide) h2
    exact_mod_cast this
  exact Int.le_trans h3 (by decide)

theorem or_byte {m : Int} {b : UInt8} (h0 : 0 ≤ m) (h1 : m < 281474976710656) : orI .i64 (m * 256) b.toNat = m * 256 + b.toNat := by
  obtain ⟨k, rfl⟩ := Int.eq_ofNat_of_zero_le h0
  have hb := b.toNat_lt
  unfold orI
  have hw : IntKind.i64.bits = 64 := rfl
  rw [hw]
  have e1 : (BitVec.ofInt 64 ((k : Int) * 256)).toNat = k * 256 := by
    rw [show (k : Int) * 256 = ((k * 256 : Nat) : Int) by simp, BitVec.ofInt_natCast, BitVec.toNat_ofNat]
    exact Nat.mod_eq_of_lt (by omega)
  have e2 : (BitVec.ofInt 64 (b.toNat : Int)).toNat = b.toNat := by
    rw [BitVec.ofInt_natCast, BitVec.toNat_ofNat]
    exact Nat.mod_eq_of_lt (by omega)
  rw [BitVec.toNat_or, e1, e2]
  have e3 : k * 256 ||| b.toNat = k * 256 + b.toNat := by
    have := Nat.shiftLeft_add_eq_or_of_lt (i := 8) (b := b.toNat) (by omega) k
    rw [Nat.shiftLeft_eq] at this
    exact this.symm
  rw [e3]
  rw [wrap64 (by omega)]
  simp

theorem conv_byte (b : UInt8) : IntKind.i64.wrap (b.toNat : Int) = b.toNat := wrap64 (by have := b.toNat_lt; omega)

def c_l02Of : FSpec := ⟨[(.rd, .str)], [.int .i64], true, fun ps => (nth ps 0).S.length ≤ 7, fun ps => [.int .i64 (numB (nth ps 0).S)], fun _ => []⟩
theorem k_l02Of : FnOk Try.prog 121 c_l02Of := by
  refine fn_mk [0, 2, 3, 4] [.tmp 2] (env_nil (tyTab_ok [])) mixed Try.func121 rfl (by decide) rfl (by decide) rfl ?_
  intro ps hT hpre W hW
  simp only [c_l02Of, TyA, Ty, Tys] at hT hpre
  obtain ⟨_, _, rfl, ⟨l, rfl, hl⟩, rfl⟩ := hT
  simp only [nth_zero, pv_S] at hpre
  refine hW.vc [] _ _ ?_
  simp [-List.getD_eq_getElem?_getD, c_l02Of]
  refine hW.loopS _ _ _ [.sl 3 .dp (.int .i64), .sl 4 .dp (.int .i64)] (fun ys => ∃ i : Nat, ys = [.int .i64 (numB (l.take i)), .int .i64 i] ∧ i ≤ l.length) (fun ys => l.length - (nth ys 1).I.toNat) ?_ ?_
  · simp [-List.getD_eq_getElem?_getD, c_l02Of]
    exact ⟨0, ⟨by simp [numB], rfl⟩, by simp⟩
  · rintro ys ⟨i, rfl, h4⟩
    refine hW.vc [] _ _ ?_
    simp [-List.getD_eq_getElem?_getD, c_l02Of]
    refine fun _ => ⟨fun h6 => ⟨h6, ?_⟩, fun h6 => by rw [List.take_of_length_le h6]⟩
    have h7 := numB_le hpre i
    have h8 := numB_le6 hpre h6
    have h9 := (l.getD i 0).toNat_lt
    rw [conv_byte, wrap64 (n := numB (l.take i) * 256) (by omega), wrap64 (by omega), wrap64 (by omega)]
    exact ⟨⟨i + 1, ⟨(numB_take h6).symm, by omega⟩, by omega⟩, by omega⟩

def c_bigNumber : FSpec := c_l02Of
theorem k_bigNumber : FnOk Try.prog 127 c_bigNumber := by
  refine fn_mk [0, 2, 3, 4, 6, 7] [.tmp 2] (env_nil (tyTab_ok [])) mixed Try.func127 rfl (by decide) rfl (by decide) rfl ?_
  intro ps hT hpre W hW
  simp only [c_bigNumber, TyA, Ty, Tys] at hT hpre
  simp only [c_l02Of, TyA, Ty] at hT hpre
  obtain ⟨_, _, rfl, ⟨l, rfl, hl⟩, rfl⟩ := hT
  simp only [nth_zero, pv_S] at hpre
  refine hW.vc [] _ _ ?_
  simp [-List.getD_eq_getElem?_getD, c_bigNumber, c_l02Of, c_l02Of]
  intro h0
  refine hW.loopS _ _ _ [.sl 3 .dp (.int .i64), .sl 7 .dp (.int .i64)] (fun ys => ∃ i : Nat, ys = [.int .i64 (numB (l.take i)), .int .i64 i] ∧ i ≤ l.length) (fun ys => l.length - (nth ys 1).I.toNat) ?_ ?_
  · simp [-List.getD_eq_getElem?_getD, c_bigNumber, c_l02Of]
    exact ⟨0, ⟨by simp [numB], rfl⟩, by simp⟩
  · rintro ys ⟨i, rfl, h4⟩
    refine hW.vc [] _ _ ?_
    simp [-List.getD_eq_getElem?_getD, c_bigNumber, c_l02Of, c_l02Of]
    refine ⟨fun h6 => ⟨h6, ?_⟩, fun h6 => by rw [List.take_of_length_le h6]⟩
    have h7 := numB_le hpre i
    have h8 := numB_le6 hpre h6
    have h9 := (l.getD i 0).toNat_lt
    rw [conv_byte, show shlI IntKind.i64 (numB (List.take i l)) 8 = IntKind.i64.wrap (numB (l.take i) * 256) from rfl, wrap64 (n := numB (l.take i) * 256) (by omega), wrap64 (by omega), or_byte h8.1 h8.2]
    exact ⟨⟨i + 1, ⟨(numB_take h6).symm, by omega⟩, by omega⟩, by omega⟩

def runeOk (n : Int) : Bool := inB n 0 1114111 && !inB n 55296 57343
def isRuneB (n : Int) : Bool := inB n 32 1114111 && (n != 127) && !inB n 55296 57343
def cellB (r k : Int) : Bool := runeOk r && decide (r ≥ 32) && (r != 127) && inB k 0 127

def c_l03RuneOK : FSpec := ⟨[(.rd, .int .i64)], [.bool], true, fun _ => True, fun ps => [.bool (runeOk (nth ps 0).I)], fun _ => []⟩
theorem k_l03RuneOK : FnOk Try.prog 140 c_l03RuneOK := by
  refine fn_mk [0, 2] [.tmp 2] (env_cons (cs := []) k_l01In (env_nil (tyTab_ok []))) mixed Try.func140 rfl (by decide) rfl (by decide) rfl ?_
  intro ps hT hpre W hW
  simp only [c_l03RuneOK, TyA, Ty, Tys] at hT hpre
  obtain ⟨_, _, rfl, ⟨a, rfl, ha⟩, rfl⟩ := hT
  refine hW.vc [] _ _ ?_
  simp [-List.getD_eq_getElem?_getD, c_l03RuneOK, c_l01In, c_within, c_within]
  rfl

def c_isRune : FSpec := ⟨[(.rd, .int .i64)], [.bool], true, fun _ => True, fun ps => [.bool (isRuneB (nth ps 0).I)], fun _ => []⟩
theorem k_isRune : FnOk Try.prog 126 c_isRune := by
  refine fn_mk [0, 2] [.tmp 2] (env_cons (cs := []) k_within (env_nil (tyTab_ok []))) mixed Try.func126 rfl (by decide) rfl (by decide) rfl ?_
  intro ps hT hpre W hW
  simp only [c_isRune, TyA, Ty, Tys] at hT hpre
  obtain ⟨_, _, rfl, ⟨a, rfl, ha⟩, rfl⟩ := hT
  refine hW.vc [] _ _ ?_
  simp [-List.getD_eq_getElem?_getD, c_isRune, c_within]
  simp only [isRuneB]; congr 2

def c_l04Cell : FSpec := ⟨[(.rd, .agg [.int .i64, .int .i64])], [.bool], true, fun _ => True, fun ps => [.bool (cellB (nth (nth ps 0).A 0).I (nth (nth ps 0).A 1).I)], fun _ => []⟩
theorem k_l04Cell : FnOk Try.prog 120 c_l04Cell := by
  refine fn_mk [0, 1, 2] [.tmp 2] (env_cons (cs := []) k_l01In (env_cons (cs := []) k_l03RuneOK (env_nil (tyTab_ok [])))) mixed Try.func120 rfl (by decide) rfl (by decide) rfl ?_
  intro ps hT hpre W hW
  simp only [c_l04Cell, TyA, Ty, Tys] at hT hpre
  obtain ⟨_, _, rfl, ⟨_, rfl, _, _, rfl, ⟨a, rfl, ha⟩, _, _, rfl, ⟨b, rfl, hb⟩, rfl⟩, rfl⟩ := hT
  refine hW.vc [] _ _ ?_
  simp [-List.getD_eq_getElem?_getD, c_l04Cell, c_l03RuneOK, c_l01In, c_within, c_within]
  simp only [cellB]; congr 2

/-- A row is so many cells of four bytes each. -/
def rowGo : List UInt8 → Bool
  | [] => true
  | a :: b :: c :: d :: l => isRuneB (numB [a, b, c]) && decide (d.toNat ≤ 127) && rowGo l
  | _ => false
def rowB (l : List UInt8) (w : Int) : Bool := decide ((l.length : Int) = 4 * w) && rowGo l

theorem rowGo_step {r : List UInt8} (h : 4 ≤ r.length) : rowGo r = (isRuneB (numB (r.take 3)) && decide ((r.getD 3 0).toNat ≤ 127) && rowGo (r.drop 4)) := by
  match r, h with
  | a :: b :: c :: d :: l, _ => rfl
theorem cell_eq (n : Int) (d : UInt8) : cellB n d.toNat = (isRuneB n && decide (d.toNat ≤ 127)) := by
  rw [Bool.eq_iff_iff]
  simp [cellB, isRuneB, runeOk, inB]
  omega
theorem row_off {l : List UInt8} {n : Nat} (i : Nat) : (l.drop n).getD i 0 = l.getD (n + i) 0 := by
  simp only [List.getD_eq_getElem?_getD, List.getElem?_drop]

def c_isRow : FSpec := ⟨[(.rd, .str), (.rd, .int .i64)], [.bool], true, fun ps => 0 ≤ (nth ps 1).I ∧ (nth ps 1).I ≤ 1000, fun ps => [.bool (rowB (nth ps 0).S (nth ps 1).I)], fun _ => []⟩
theorem k_isRow : FnOk Try.prog 89 c_isRow := by
  refine fn_mk [0, 1, 4] [.tmp 4] (env_cons (cs := []) k_isRune (env_cons (cs := []) k_bigNumber (env_nil (tyTab_ok [])))) mixed Try.func89 rfl (by decide) rfl (by decide) rfl ?_
  intro ps hT hpre W hW
  simp only [c_isRow, TyA, Ty, Tys] at hT hpre
  obtain ⟨_, _, rfl, ⟨l, rfl, hl⟩, _, _, rfl, ⟨w, rfl, hw⟩, rfl⟩ := hT
  simp only [nth_zero, nth_succ, pv_S, pv_I] at hpre
  refine hW.vc [] _ _ ?_
  simp [-List.getD_eq_getElem?_getD, c_isRow, c_bigNumber, c_isRune, c_l02Of]
  intro h1
  rw [wrap64 (by omega)]
  refine ⟨fun h => by simp [rowB, h], fun h => ?_⟩
  refine hW.loopS _ _ _ [.sl 0 .dp .str] (fun ys => ∃ r, ys = [.str r] ∧ (∃ k, r.length = 4 * k) ∧ r.length ≤ l.length ∧ rowB l w = rowGo r) (fun ys => (nth ys 0).S.length) ?_ ?_
  · simp [-List.getD_eq_getElem?_getD, c_isRow, c_bigNumber, c_isRune, c_l02Of]
    exact ⟨⟨w.toNat, by omega⟩, by simp [rowB, h]⟩
  · rintro ys ⟨r, rfl, ⟨k, hk⟩, h2, h3⟩
    refine hW.vc [] _ _ ?_
    simp [-List.getD_eq_getElem?_getD, c_isRow, c_bigNumber, c_isRune, c_l02Of]
    refine ⟨fun h4 => ?_, fun h4 => by rw [h3, h4]; rfl⟩
    have h5 : r.length ≠ 0 := fun e => h4 (List.eq_nil_of_length_eq_zero e)
    have h6 : 4 ≤ r.length := by omega
    rw [rowGo_step h6] at h3
    refine ⟨by omega, by omega, fun h7 => ⟨h7, by omega⟩, fun h7 => ?_, fun h7 h8 => ⟨by omega, ⟨⟨k - 1, by omega⟩, by omega, ?_⟩, by omega⟩⟩
    · rw [h3]
      rcases h7 with h7 | h7
      · simp [h7]
      · have : ¬ (r.getD 3 0).toNat ≤ 127 := by omega
        simp only [this, decide_false, Bool.and_false, Bool.false_and]
    · have : (r.getD 3 0).toNat ≤ 127 := by omega
      rw [h3, h7, List.take_of_length_le (by simp)]
      simp only [this, decide_true, Bool.and_true, Bool.true_and]

def c_l11Row : FSpec := ⟨[(.rd, .int .i64), (.rd, .str)], [.bool], true, fun ps => 0 ≤ (nth ps 0).I ∧ (nth ps 0).I ≤ 1000, fun ps => [.bool (rowB (nth ps 1).S (nth ps 0).I)], fun _ => []⟩
theorem k_l11Row : FnOk Try.prog 82 c_l11Row := by
  refine fn_mk [0, 1, 4, 5] [.tmp 4] (env_cons (cs := []) k_l04Cell (env_cons (cs := []) k_l02Of (env_nil (tyTab_ok [])))) mixed Try.func82 rfl (by decide) rfl (by decide) rfl ?_
  intro ps hT hpre W hW
  simp only [c_l11Row, TyA, Ty, Tys] at hT hpre
  obtain ⟨_, _, rfl, ⟨w, rfl, hw⟩, _, _, rfl, ⟨l, rfl, hl⟩, rfl⟩ := hT
  simp only [nth_zero, nth_succ, pv_S, pv_I] at hpre
  refine hW.vc [(6, [], .take 0 <| .take 1 <| .take 2 <| .take 3 <| .take 4 <| .take 5 <| .take 6 <| .take 8 <| .take 9 <| .take 10 <| .take 11 <| .take 12 <| .take 13 <| .alt 7 (.take 14 <| .alt 15 (.take 16 <| .done) .stop) .stop)] _ _ ?_
  simp [-List.getD_eq_getElem?_getD, c_l11Row, c_l02Of, c_l04Cell]
  intro h1
  rw [wrap64 (by omega)]
  refine ⟨fun h => by simp [rowB, h], fun h => ?_⟩
  refine hW.loopS _ _ _ [.sl 5 .dp (.int .i64)] (fun ys => ∃ x : Nat, ys = [.int .i64 x] ∧ (x : Int) ≤ w ∧ rowB l w = rowGo (l.drop (4 * x))) (fun ys => (w - (nth ys 0).I).toNat) ?_ ?_
  · simp [-List.getD_eq_getElem?_getD, c_l11Row, c_l02Of, c_l04Cell]
    exact ⟨0, rfl, by omega, by simp [rowB, h]⟩
  · rintro ys ⟨x, rfl, h2, h3⟩
    refine hW.vc [(6, [], .take 0 <| .take 1 <| .take 2 <| .take 3 <| .take 4 <| .take 5 <| .take 6 <| .take 8 <| .take 9 <| .take 10 <| .take 11 <| .take 12 <| .take 13 <| .alt 7 (.take 14 <| .alt 15 (.take 16 <| .done) .stop) .stop)] _ _ ?_
    simp [-List.getD_eq_getElem?_getD, c_l11Row, c_l02Of, c_l04Cell]
    refine ⟨fun h4 => ⟨by decide +kernel, ?_⟩, fun h4 => ?_⟩
    · rw [wrap64 (n := 4 * (x : Int)) (by omega), wrap64 (n := 4 * (x : Int) + 3) (by omega), conv_byte, cell_eq]
      have e1 : (4 * (x : Int)).toNat = 4 * x := by omega
      have e2 : (4 * (x : Int) + 3).toNat = 4 * x + 3 := by omega
      have e3 : 4 * x + 3 - 4 * x = 3 := by omega
      rw [e1, e2, e3]
      have h5 : 4 ≤ (l.drop (4 * x)).length := by simp; omega
      rw [rowGo_step h5, row_off, List.drop_drop] at h3
      rw [wrap64 (by omega)]
      refine ⟨⟨by omega, by omega, by omega⟩, ⟨by omega, by omega⟩, by omega, fun h6 => by rw [h3, h6]; rfl, fun h6 => ⟨⟨x + 1, by omega, by omega, ?_⟩, by omega⟩⟩
      rw [h3, h6, Bool.true_and, Nat.mul_add]
    · rw [h3, List.drop_eq_nil_of_le (by omega)]; rfl

end Go.Proofs.Ytkofjkjcbljkdaa
end

section
namespace Go.Proofs.Ytkofjkjcbljkdaa
variable [LaidG]
set_option maxRecDepth 100000
set_option linter.unusedSimpArgs false

def rowsB (es : List PV) (w h : Int) : Bool := decide ((es.length : Int) = h) && es.all fun e => rowB e.S w
/-- The first place from i on. -/
def idxGo (p : PV → Bool) (i : Nat) : List PV → Int
  | [] => -1
  | e :: es => if p e then (i : Int) else idxGo p (i + 1) es
theorem idxGo_any (p : PV → Bool) : ∀ (es : List PV) (i : Nat), decide (0 ≤ idxGo p i es) = es.any p
  | [], i => by simp [idxGo]
  | e :: es, i => by
    simp only [idxGo, List.any_cons]
    by_cases h : p e = true
    · simp [h]
    · simp [h, idxGo_any p es (i + 1)]

def wOk (w : Int) : Prop := 0 ≤ w ∧ w ≤ 1000

def c_areRows1 : FSpec := ⟨[(.rd, .str), (.rd, .box [.int .i64])], [.bool], true, fun ps => wOk (nth (nth ps 1).A 0).I, fun ps => [.bool (!rowB (nth ps 0).S (nth (nth ps 1).A 0).I)], fun _ => []⟩
def c_areRows : FSpec := ⟨[(.rd, .list .str), (.rd, .int .i64), (.rd, .int .i64)], [.bool], true, fun ps => wOk (nth ps 1).I, fun ps => [.bool (rowsB (nth ps 0).L (nth ps 1).I (nth ps 2).I)], fun _ => []⟩
theorem rowsB_len {es : List PV} {w h : Int} (hl : (es.length : Int) ≠ h) : rowsB es w h = false := by simp [rowsB, hl]

def c_l11Rows : FSpec := ⟨[(.rd, .int .i64), (.rd, .int .i64), (.rd, .list .str)], [.bool], true, fun ps => wOk (nth ps 0).I, fun ps => [.bool (rowsB (nth ps 2).L (nth ps 0).I (nth ps 1).I)], fun _ => []⟩
theorem k_l11Rows : FnOk Try.prog 46 c_l11Rows := by
  refine fn_mk [0, 1, 2, 6, 7] [.tmp 6] (env_cons (cs := []) k_l11Row (env_nil (tyTab_ok []))) mixed Try.func46 rfl (by decide) rfl (by decide) rfl ?_
  intro ps hT hpre W hW
  simp only [c_l11Rows, TyA, Ty, Tys] at hT hpre
  obtain ⟨_, _, rfl, ⟨w, rfl, hw⟩, _, _, rfl, ⟨h, rfl, hh⟩, _, _, rfl, ⟨es, rfl, he, hes⟩, rfl⟩ := hT
  simp only [nth_zero, nth_succ, pv_S, pv_I, pv_A] at hpre
  refine hW.vc [] _ _ ?_
  simp [-List.getD_eq_getElem?_getD, c_l11Rows, c_l11Row]
  refine fun h1 => ⟨fun h2 => rowsB_len h2, fun h2 => ?_⟩
  refine hW.loopS _ _ _ [.sl 7 .dp (.int .i64)] (fun ys => ∃ i : Nat, ys = [.int .i64 i] ∧ i ≤ es.length ∧ rowsB es w h = (es.drop i).all fun e => rowB e.S w) (fun ys => es.length - (nth ys 0).I.toNat) ?_ ?_
  · simp [-List.getD_eq_getElem?_getD, c_l11Rows, c_l11Row]
    exact ⟨0, rfl, by simp, by simp [rowsB, h2]⟩
  · rintro ys ⟨i, rfl, h3, h4⟩
    refine hW.vc [] _ _ ?_
    simp [-List.getD_eq_getElem?_getD, c_l11Rows, c_l11Row]
    refine ⟨fun h5 => ⟨by omega, fun _ => ⟨hpre, fun h6 => ?_, fun h6 => ?_⟩⟩, fun h5 => ?_⟩
    · rw [h4, drop_nth (by omega)]; simp [h6]
    · rw [wrap64 (by omega)]
      refine ⟨⟨i + 1, by omega, by omega, ?_⟩, by omega⟩
      rw [h4, drop_nth (by omega)]; simp [h6]
    · rw [h4, List.drop_eq_nil_of_le (by omega)]; rfl

def mirB (m : List PV) : Bool := if (nth m 0).I = -1 then decide ((nth m 1).I = 0) && decide ((nth m 2).I = 0) && decide ((nth m 3).L.length = 0) else inB (nth m 0).I 0 60 && sizeB (nth m 1).I (nth m 2).I && rowsB (nth m 3).L (nth m 1).I (nth m 2).I

theorem size_wOk {w h : Int} (hs : sizeB w h = true) : wOk w := by
  simp [sizeB, inB] at hs; unfold wOk; omega
theorem mir_fin {n w h : Int} {es : List PV} : (n = -1 → (w = 0 → h = 0 → es.length ≤ 140737488355328) → (decide (w = 0) && decide (h = 0) && (es.length : Int) == 0) = mirB [PV.int .i64 n, PV.int .i64 w, PV.int .i64 h, PV.list es]) ∧
    (¬n = -1 → (inB n 0 60 = true → sizeB w h = true → wOk w) ∧ (inB n 0 60 && sizeB w h && rowsB es w h) = mirB [PV.int .i64 n, PV.int .i64 w, PV.int .i64 h, PV.list es]) := by
  refine ⟨fun h1 _ => ?_, fun h1 => ⟨fun _ h2 => size_wOk h2, ?_⟩⟩
  · simp only [mirB, nth_zero, nth_succ, pv_I, pv_L, h1, if_true]
    congr 1
    rw [Bool.eq_iff_iff]; simp
  · simp [mirB, nth_zero, nth_succ, pv_I, pv_L, h1]

def c_isNumber : FSpec := ⟨[(.rd, .int .i64)], [.bool], true, fun _ => True, fun ps => [.bool (inB (nth ps 0).I 0 60)], fun _ => []⟩
theorem k_isNumber : FnOk Try.prog 87 c_isNumber := by
  refine fn_mk [0, 2] [.tmp 2] (env_cons (cs := []) k_within (env_nil (tyTab_ok []))) mixed Try.func87 rfl (by decide) rfl (by decide) rfl ?_
  intro ps hT hpre W hW
  simp only [c_isNumber, TyA, Ty, Tys] at hT hpre
  obtain ⟨_, _, rfl, ⟨a, rfl, ha⟩, rfl⟩ := hT
  refine hW.vc [] _ _ ?_
  simp [-List.getD_eq_getElem?_getD, c_isNumber, c_within]

def c_isMirror : FSpec := ⟨[(.rd, .agg [.int .i64, .int .i64, .int .i64, .list .str])], [.bool], true, fun _ => True, fun ps => [.bool (mirB (nth ps 0).A)], fun _ => []⟩
def c_MirrorOK : FSpec := c_isMirror
def c_sMirrorOK : FSpec := c_isMirror
end Go.Proofs.Ytkofjkjcbljkdaa
end

section
namespace Go.Proofs.Ytkofjkjcbljkdaa
variable [LaidG]
set_option maxRecDepth 100000
set_option linter.unusedSimpArgs false

theorem szGo_le : ∀ {es : List PV} {l : Int}, 0 ≤ l → szGo l es ≤ l ∧ (-1 ≤ szGo l es)
  | [], l, h => ⟨Int.le_refl _, by simp [szGo]; omega⟩
  | e :: es, l, h => by
    simp only [szGo]
    split
    · exact ⟨by omega, by omega⟩
    · have := szGo_le (es := es) (l := l - e.S.length) (by omega)
      omega
theorem szStr_le {es : List PV} {l : Int} (h : 0 ≤ l) : szStr es l ≤ l ∧ -1 ≤ szStr es l ∧ (0 ≤ szStr es l → (es.length : Int) ≤ l) := by
  unfold szStr
  split
  · omega
  · have := szGo_le (es := es) (l := l - es.length) (by omega)
    omega

theorem eqL_refl {f : PV → PV → Bool} (hf : ∀ x, f x x = true) : ∀ {es : List PV}, eqL f es es = true
  | [] => rfl
  | e :: es => by simp [eqL, hf, eqL_refl hf (es := es)]

def c_szMirror : FSpec := ⟨[(.rd, .agg [.int .i64, .int .i64, .int .i64, .list .str]), (.rd, .int .i64)], [.int .i64], true, fun ps => 0 ≤ (nth ps 1).I, fun ps => [.int .i64 (szStr (nth (nth ps 0).A 3).L (nth ps 1).I)], fun _ => []⟩
def c_toMirror : FSpec := ⟨[(.rd, .agg [.int .i64, .int .i64, .int .i64, .list .str])], [.agg [.int .i64, .int .i64, .int .i64, .list .str]], true, fun ps => (nth (nth ps 0).A 3).L.length ≤ 1048576, fun ps => [nth ps 0], fun _ => []⟩
def eqMir (a b : List PV) : Bool := (nth a 0).I == (nth b 0).I && (nth a 1).I == (nth b 1).I && (nth a 2).I == (nth b 2).I && eqL (fun x y => x.S == y.S) (nth a 3).L (nth b 3).L
def c_eqMirror : FSpec := ⟨[(.rd, .agg [.int .i64, .int .i64, .int .i64, .list .str]), (.rd, .agg [.int .i64, .int .i64, .int .i64, .list .str])], [.bool], true, fun _ => True, fun ps => [.bool (eqMir (nth ps 0).A (nth ps 1).A)], fun _ => []⟩
def c_exMirrorOK : FSpec := ⟨[(.rd, .agg [.int .i64, .int .i64, .int .i64, .list .str])], [.bool], true, fun _ => True, fun _ => [.bool true], fun _ => []⟩
end Go.Proofs.Ytkofjkjcbljkdaa
end

section
namespace Go.Proofs.Ytkofjkjcbljkdaa
variable [LaidG]
set_option maxRecDepth 100000
set_option linter.unusedSimpArgs false

/-- What is left behind some sizes. -/
def szG (f : PV → Int) (l : Int) : List PV → Int
  | [] => l
  | e :: es => if l - f e < 0 then -1 else szG f (l - f e) es
theorem szG_le {f : PV → Int} (hf : ∀ e, 0 ≤ f e) : ∀ {es : List PV} {l : Int}, 0 ≤ l → szG f l es ≤ l ∧ -1 ≤ szG f l es
  | [], l, h => ⟨Int.le_refl _, by simp [szG]; omega⟩
  | e :: es, l, h => by
    have := hf e
    simp only [szG]
    split
    · exact ⟨by omega, by omega⟩
    · have := szG_le hf (es := es) (l := l - f e) (by omega)
      omega
def szGs (f : PV → Int) (es : List PV) (l : Int) : Int := if l - es.length < 0 then -1 else szG f (l - es.length) es
theorem szGs_le {f : PV → Int} (hf : ∀ e, 0 ≤ f e) {es : List PV} {l : Int} (h : 0 ≤ l) : szGs f es l ≤ l ∧ -1 ≤ szGs f es l ∧ (0 ≤ szGs f es l → (es.length : Int) ≤ l) := by
  unfold szGs
  split
  · omega
  · have := szG_le hf (es := es) (l := l - es.length) (by omega)
    omega

def szR1 (l n : Int) : Int := if l - n < 0 then -1 else l - n
def rowLen (e : PV) : Int := (nth e.A 1).S.length
theorem rowLen_nn (e : PV) : 0 ≤ rowLen e := by unfold rowLen; omega

def c_szRow : FSpec := ⟨[(.rd, .agg [.int .i64, .str]), (.rd, .int .i64)], [.int .i64], true, fun ps => 0 ≤ (nth ps 1).I, fun ps => [.int .i64 (szR1 (nth ps 1).I (nth (nth ps 0).A 1).S.length)], fun _ => []⟩
def c_szRowS : FSpec := ⟨[(.rd, .list (.agg [.int .i64, .str])), (.rd, .int .i64)], [.int .i64], true, fun ps => 0 ≤ (nth ps 1).I, fun ps => [.int .i64 (szGs rowLen (nth ps 0).L (nth ps 1).I)], fun _ => []⟩
def c_szView : FSpec := ⟨[(.rd, .agg [.int .i64, .int .i64, .bool, .int .i64, .int .i64, .list (.agg [.int .i64, .str])]), (.rd, .int .i64)], [.int .i64], true, fun ps => 0 ≤ (nth ps 1).I, fun ps => [.int .i64 (szGs rowLen (nth (nth ps 0).A 5).L (nth ps 1).I)], fun _ => []⟩
def c_toRow : FSpec := ⟨[(.rd, .agg [.int .i64, .str])], [.agg [.int .i64, .str]], true, fun _ => True, fun ps => [nth ps 0], fun _ => []⟩
theorem row_eta {e : PV} (h : ∃ qs, e = .agg qs ∧ ∃ p r, qs = p :: r ∧ (∃ n, p = .int .i64 n ∧ inR .i64 n) ∧ ∃ p r', r = p :: r' ∧ (∃ l, p = .str l ∧ l.length ≤ LIM) ∧ r' = []) : PV.agg [.int .i64 (nth e.A 0).I, .str (nth e.A 1).S] = e := by
  obtain ⟨_, rfl, _, _, rfl, ⟨n, rfl, _⟩, _, _, rfl, ⟨l, rfl, _⟩, rfl⟩ := h
  rfl

def c_toRowS : FSpec := ⟨[(.rd, .list (.agg [.int .i64, .str]))], [.list (.agg [.int .i64, .str])], true, fun ps => (nth ps 0).L.length ≤ 1048576, fun ps => [.list (nth ps 0).L], fun _ => []⟩
def c_toView : FSpec := ⟨[(.rd, .agg [.int .i64, .int .i64, .bool, .int .i64, .int .i64, .list (.agg [.int .i64, .str])])], [.agg [.int .i64, .int .i64, .bool, .int .i64, .int .i64, .list (.agg [.int .i64, .str])]], true, fun ps => (nth (nth ps 0).A 5).L.length ≤ 1048576, fun ps => [nth ps 0], fun _ => []⟩
def eqRow1 (a b : List PV) : Bool := (nth a 0).I == (nth b 0).I && (nth a 1).S == (nth b 1).S
def eqRow2 (a b : PV) : Bool := eqRow1 a.A b.A
theorem eqRow2_refl (a : PV) : eqRow2 a a = true := by simp [eqRow2, eqRow1]
def c_eqRow : FSpec := ⟨[(.rd, .agg [.int .i64, .str]), (.rd, .agg [.int .i64, .str])], [.bool], true, fun _ => True, fun ps => [.bool (eqRow1 (nth ps 0).A (nth ps 1).A)], fun _ => []⟩
def c_eqRowS : FSpec := ⟨[(.rd, .list (.agg [.int .i64, .str])), (.rd, .list (.agg [.int .i64, .str]))], [.bool], true, fun _ => True, fun ps => [.bool (eqL eqRow2 (nth ps 0).L (nth ps 1).L)], fun _ => []⟩
def eqVw (a b : List PV) : Bool := (nth a 0).I == (nth b 0).I && (nth a 1).I == (nth b 1).I && (nth a 2).B == (nth b 2).B && (nth a 3).I == (nth b 3).I && (nth a 4).I == (nth b 4).I && eqL eqRow2 (nth a 5).L (nth b 5).L
def c_eqView : FSpec := ⟨[(.rd, .agg [.int .i64, .int .i64, .bool, .int .i64, .int .i64, .list (.agg [.int .i64, .str])]), (.rd, .agg [.int .i64, .int .i64, .bool, .int .i64, .int .i64, .list (.agg [.int .i64, .str])])], [.bool], true, fun _ => True, fun ps => [.bool (eqVw (nth ps 0).A (nth ps 1).A)], fun _ => []⟩
/-- Rows that rise, each of all its cells. -/
def upB (w h : Int) (p : Int) : List PV → Bool
  | [] => true
  | e :: es => inB (nth e.A 0).I 0 (h - 1) && decide (p < (nth e.A 0).I) && rowB (nth e.A 1).S w && upB w h (nth e.A 0).I es
def leB (a b : Int) : Bool := decide (a ≤ b)
def selB (c a b : Bool) : Bool := (c && a) || (!c && b)
def viewB (v : List PV) : Bool :=
  inB (nth v 0).I 0 60 && sizeB (nth v 3).I (nth v 4).I && leB (nth v 5).L.length (nth v 4).I && upB (nth v 3).I (nth v 4).I (-1) (nth v 5).L &&
    selB (nth v 2).B ((nth v 1).I == 0 && ((nth v 5).L.length : Int) == (nth v 4).I) (inB (nth v 1).I 0 ((nth v 0).I - 1))
/-- The row ahead of place i. -/
def pvY (es : List PV) (i : Nat) : Int := if i = 0 then -1 else (nth (nth es (i - 1)).A 0).I

theorem view_no {n f w h : Int} {u : Bool} {es : List PV} (h2 : (inB n 0 60 = false ∨ sizeB w h = false) ∨ h < es.length) : viewB [.int .i64 n, .int .i64 f, .bool u, .int .i64 w, .int .i64 h, .list es] = false := by
  simp only [viewB, nth_zero, nth_succ, pv_I, pv_L]
  rcases h2 with (h2 | h2) | h2
  · simp [h2]
  · simp [h2]
  · have : ¬ (es.length : Int) ≤ h := by omega
    simp [this, leB]
theorem view_eq {n f w h : Int} {u : Bool} {es : List PV} (h2 : inB n 0 60 = true) (h3 : sizeB w h = true) (h4 : (es.length : Int) ≤ h) : (2 ≤ w ∧ w ≤ 24 ∧ 2 ≤ h ∧ h ≤ 10) ∧
    viewB [.int .i64 n, .int .i64 f, .bool u, .int .i64 w, .int .i64 h, .list es] = (upB w h (-1) es && selB u (f == 0 && (es.length : Int) == h) (inB f 0 (n - 1))) := by
  refine ⟨by simp [sizeB, inB] at h3; omega, ?_⟩
  simp [viewB, nth_zero, nth_succ, pv_I, pv_L, pv_B, h2, h3, h4, leB]
theorem pvY_succ (es : List PV) (i : Nat) : pvY es (i + 1) = (nth (nth es i).A 0).I := by simp [pvY]
theorem pvY_pos {es : List PV} {i : Nat} (h : 0 < i) : pvY es i = (nth (nth es (i - 1)).A 0).I := by rw [pvY, if_neg (by omega)]
theorem pvY_lt {es : List PV} {i : Nat} {y h : Int} (h1 : inB y 0 h = true) (h2 : 0 < i → (nth (nth es (i - 1)).A 0).I < y) : pvY es i < y := by
  by_cases h0 : 0 < i
  · rw [pvY_pos h0]; exact h2 h0
  · have : pvY es i = -1 := by rw [pvY, if_pos (by omega)]
    rw [this]
    simp [inB] at h1; omega

def c_isView : FSpec := ⟨[(.rd, .agg [.int .i64, .int .i64, .bool, .int .i64, .int .i64, .list (.agg [.int .i64, .str])])], [.bool], true, fun _ => True, fun ps => [.bool (viewB (nth ps 0).A)], fun _ => []⟩
theorem k_isView : FnOk Try.prog 49 c_isView := by
  refine fn_mk [0, 1, 2, 3, 4, 26, 27, 28] [.tmp 2] (env_cons (cs := []) k_isRow (env_cons (cs := []) k_within (env_cons (cs := []) k_isSize (env_cons (cs := []) k_isNumber (env_nil (tyTab_ok [])))))) mixed Try.func49 rfl (by decide) rfl (by decide) rfl ?_
  intro ps hT hpre W hW
  simp only [c_isView, TyA, Ty, Tys] at hT hpre
  obtain ⟨_, _, rfl, ⟨_, rfl, _, _, rfl, ⟨n, rfl, hn⟩, _, _, rfl, ⟨f, rfl, hf⟩, _, _, rfl, ⟨u, rfl⟩, _, _, rfl, ⟨w, rfl, hw⟩, _, _, rfl, ⟨h, rfl, hh⟩, _, _, rfl, ⟨es, rfl, hes, tes⟩, rfl⟩, rfl⟩ := hT
  refine hW.vc [(6, [], .take 0 <| .take 1 <| .take 2 <| .take 3 <| .take 4 <| .alt 5 (.take 6 <| .take 7 <| .take 8 <| .take 9 <| .take 10 <| .take 11 <| .take 12 <| .take 13 <| .take 14 <| .take 15 <| .take 16 <| .take 17 <| .take 18 <| .take 19 <| .take 20 <| .take 21 <| .take 22 <| .take 23 <| .take 24 <| .take 25 <| .take 26 <| .take 27 <| .alt 28 (.take 29 <| .take 30 <| .done) .stop) .stop)] _ _ ?_
  simp [-List.getD_eq_getElem?_getD, c_isView, c_isNumber, c_isSize, c_within, c_isRow]
  intro h1
  refine ⟨view_no, fun h2 h3 h4 h5 => ?_⟩
  obtain ⟨h6, h7⟩ := view_eq (u := u) (f := f) h2 h3 h4
  refine hW.loopS _ _ _ [.sl 28 .dp (.int .i64)] (fun ys => ∃ i : Nat, ys = [.int .i64 i] ∧ i ≤ es.length ∧ upB w h (-1) es = upB w h (pvY es i) (es.drop i)) (fun ys => es.length - (nth ys 0).I.toNat) ?_ ?_
  · simp [-List.getD_eq_getElem?_getD, c_isView, c_isNumber, c_isSize, c_within, c_isRow]
    exact ⟨0, rfl, by simp, by simp [pvY]⟩
  · rintro ys ⟨i, rfl, g1, g2⟩
    refine hW.vc [(6, [], .take 0 <| .take 1 <| .take 2 <| .take 3 <| .take 4 <| .alt 5 (.take 6 <| .take 7 <| .take 8 <| .take 9 <| .take 10 <| .take 11 <| .take 12 <| .take 13 <| .take 14 <| .take 15 <| .take 16 <| .take 17 <| .take 18 <| .take 19 <| .take 20 <| .take 21 <| .take 22 <| .take 23 <| .take 24 <| .take 25 <| .take 26 <| .take 27 <| .alt 28 (.take 29 <| .take 30 <| .done) .stop) .stop)] _ _ ?_
    simp [-List.getD_eq_getElem?_getD, c_isView, c_isNumber, c_isSize, c_within, c_isRow]
    have k1 : IntKind.i64.wrap (h - 1) = h - 1 := wrap64 (by omega)
    simp only [k1]
    have k2 : 0 < i → (IntKind.i64.wrap ((i : Int) - 1)).toNat = i - 1 := fun h => by rw [wrap64 (by omega)]; omega
    have k3 : 0 < i → IntKind.i64.wrap ((i : Int) - 1) = i - 1 := fun h => wrap64 (by omega)
    refine ⟨fun g3 => ⟨g3, fun _ _ _ => ⟨by decide +kernel, fun g4 g5 => ⟨⟨g4, g5⟩, by rw [k3 g5]; omega⟩, fun g4 g5 => ⟨⟨g4, g5⟩, by rw [k2 g5]; omega⟩, fun _ => ⟨fun g4 => ⟨g4, fun g5 => ⟨g4, g5⟩⟩, fun _ _ => by omega, ?_⟩⟩⟩, ?_⟩
    · rw [drop_nth g3, upB] at g2
      have k4 : 0 < i → pvY es i = (nth (nth es (i - 1)).A 0).I := fun h => by rw [pvY, if_neg (by omega)]
      refine ⟨fun g4 => ?_, fun g4 g5 g6 => ?_⟩
      · rw [h7, g2]
        rcases g4 with (g4 | ⟨g4, g5⟩) | g4
        · simp [g4]
        · rw [k2 g4] at g5
          have : ¬ pvY es i < (nth (nth es i).A 0).I := by rw [k4 g4]; omega
          simp [this]
        · simp [g4]
      · rw [wrap64 (by omega)]
        have k5 : pvY es i < (nth (nth es i).A 0).I := by
          by_cases h0 : 0 < i
          · have := g5 h0
            rw [k2 h0] at this
            rw [k4 h0]; exact this
          · have : pvY es i = -1 := by rw [pvY, if_pos (by omega)]
            rw [this]
            simp [inB] at g4; omega
        refine ⟨⟨i + 1, by omega, by omega, ?_⟩, by omega⟩
        have k6 : pvY es (i + 1) = (nth (nth es i).A 0).I := by simp [pvY]
        rw [g2, g4, g6, k6]
        simp [k5]
    · intro g3
      rw [List.drop_eq_nil_of_le g3, upB] at g2
      have k5 : IntKind.i64.wrap (n - 1) = n - 1 := wrap64 (by simp [inB] at h2; omega)
      rw [h7, g2, k5]
      refine ⟨fun g4 _ => ?_, fun g4 => ?_⟩
      · subst g4
        rw [Bool.eq_iff_iff]; simp [selB]
      · subst g4
        simp [selB]

def c_iViewOK : FSpec := c_isView
end Go.Proofs.Ytkofjkjcbljkdaa
end

section
namespace Go.Proofs.Ytkofjkjcbljkdaa
variable [LaidG]
set_option maxRecDepth 100000
set_option linter.unusedSimpArgs false

def c_sViewOK : FSpec := c_isView
theorem k_sViewOK : FnOk Try.prog 51 c_sViewOK := by
  refine fn_mk [0, 1, 2, 3] [.tmp 2] (env_cons (cs := []) k_l11Row (env_cons (cs := []) k_l04Size (env_cons (cs := []) k_l01In (env_nil (tyTab_ok []))))) mixed Try.func51 rfl (by decide) rfl (by decide) rfl ?_
  intro ps hT hpre W hW
  simp only [c_sViewOK, TyA, Ty, Tys] at hT hpre
  simp only [c_isView, TyA, Ty, Tys] at hT
  obtain ⟨_, _, rfl, ⟨_, rfl, _, _, rfl, ⟨n, rfl, hn⟩, _, _, rfl, ⟨f, rfl, hf⟩, _, _, rfl, ⟨u, rfl⟩, _, _, rfl, ⟨w, rfl, hw⟩, _, _, rfl, ⟨h, rfl, hh⟩, _, _, rfl, ⟨es, rfl, hes, tes⟩, rfl⟩, rfl⟩ := hT
  refine hW.vc [(6, [], .take 0 <| .take 1 <| .take 2 <| .take 3 <| .take 4 <| .take 5 <| .take 6 <| .take 7 <| .take 8 <| .alt 9 (.take 10 <| .take 11 <| .take 12 <| .take 13 <| .take 14 <| .take 15 <| .take 16 <| .take 17 <| .take 18 <| .take 19 <| .alt 20 (.take 21 <| .take 22 <| .take 23 <| .take 24 <| .take 25 <| .take 26 <| .take 27 <| .take 28 <| .take 29 <| .take 30 <| .take 31 <| .take 32 <| .take 33 <| .take 34 <| .take 35 <| .take 36 <| .take 37 <| .take 38 <| .take 39 <| .take 40 <| .take 41 <| .take 42 <| .done) .stop) .stop)] _ _ ?_
  simp [-List.getD_eq_getElem?_getD, c_sViewOK, c_l01In, c_l04Size, c_l11Row, c_isView, c_within, c_isSize, c_within]
  intro h1
  refine ⟨view_no, fun h2 h3 h4 => ?_⟩
  obtain ⟨h6, h7⟩ := view_eq (u := u) (f := f) h2 h3 h4
  refine hW.loopS _ _ _ [.sl 3 .dp (.int .i64)] (fun ys => ∃ i : Nat, ys = [.int .i64 i] ∧ i ≤ es.length ∧ upB w h (-1) es = upB w h (pvY es i) (es.drop i)) (fun ys => es.length - (nth ys 0).I.toNat) ?_ ?_
  · simp [-List.getD_eq_getElem?_getD, c_sViewOK, c_l01In, c_l04Size, c_l11Row, c_isView, c_within, c_isSize]
    exact ⟨0, rfl, by simp, by simp [pvY]⟩
  · rintro ys ⟨i, rfl, g1, g2⟩
    refine hW.vc [(6, [], .take 0 <| .take 1 <| .take 2 <| .take 3 <| .take 4 <| .take 5 <| .take 6 <| .take 7 <| .take 8 <| .alt 9 (.take 10 <| .take 11 <| .take 12 <| .take 13 <| .take 14 <| .take 15 <| .take 16 <| .take 17 <| .take 18 <| .take 19 <| .alt 20 (.take 21 <| .take 22 <| .take 23 <| .take 24 <| .take 25 <| .take 26 <| .take 27 <| .take 28 <| .take 29 <| .take 30 <| .take 31 <| .take 32 <| .take 33 <| .take 34 <| .take 35 <| .take 36 <| .take 37 <| .take 38 <| .take 39 <| .take 40 <| .take 41 <| .take 42 <| .done) .stop) .stop)] _ _ ?_
    simp [-List.getD_eq_getElem?_getD, c_sViewOK, c_l01In, c_l04Size, c_l11Row, c_isView, c_within, c_isSize, c_within]
    have k1 : IntKind.i64.wrap (h - 1) = h - 1 := wrap64 (by omega)
    simp only [k1]
    have k2 : 0 < i → (IntKind.i64.wrap ((i : Int) - 1)).toNat = i - 1 := fun h => by rw [wrap64 (by omega)]; omega
    have k3 : 0 < i → IntKind.i64.wrap ((i : Int) - 1) = i - 1 := fun h => wrap64 (by omega)
    refine fun _ => ⟨fun g3 => ⟨by decide +kernel, g3, fun _ => ⟨fun g4 => ⟨g4, g3⟩, fun _ => ⟨fun _ => by omega, fun g4 g5 g6 => ⟨⟨⟨g4, g5⟩, g6⟩, by rw [k3 g6]; omega⟩,
      fun g4 g5 g6 => ⟨⟨⟨g4, g5⟩, g6⟩, by rw [k2 g6]; omega⟩, fun _ => ⟨fun g4 g5 g6 => ⟨⟨⟨g4, g5⟩, g6⟩, g3⟩, fun _ => ⟨fun g4 g5 => ⟨⟨g4, g5⟩, fun g6 => ⟨⟨g4, g5⟩, g6⟩⟩, ?_⟩⟩⟩⟩⟩, ?_⟩
    · rw [drop_nth g3, upB] at g2
      refine ⟨fun g4 => ?_, fun g4 g6 g5 => ?_⟩
      · rw [h7, g2]
        rcases g4 with (g4 | g4) | ⟨g4, g5⟩
        · simp [g4]
        · simp [g4]
        · rw [k2 g4] at g5
          have : ¬ pvY es i < (nth (nth es i).A 0).I := by rw [pvY_pos g4]; omega
          simp [this]
      · rw [wrap64 (by omega)]
        have k5 := pvY_lt g4 fun h0 => by have := g5 h0; rw [k2 h0] at this; exact this
        refine ⟨⟨i + 1, by omega, by omega, ?_⟩, by omega⟩
        rw [g2, g4, g6, pvY_succ]
        simp [k5]
    · intro g3
      rw [List.drop_eq_nil_of_le g3, upB] at g2
      rw [h7, g2]
      refine ⟨fun g4 _ => ?_, fun g4 => ?_⟩
      · subst g4
        rw [Bool.eq_iff_iff]; simp [selB]
      · subst g4
        rw [Bool.eq_iff_iff]
        simp [selB, inB] at h2 ⊢
        omega

theorem eqRows_refl (es : List PV) : eqL eqRow2 es es = true := eqL_refl eqRow2_refl
theorem eqVw_refl (v : List PV) : eqVw v v = true := by simp [eqVw, eqRows_refl]

def c_exViewOK : FSpec := ⟨[(.rd, .agg [.int .i64, .int .i64, .bool, .int .i64, .int .i64, .list (.agg [.int .i64, .str])])], [.bool], true, fun _ => True, fun _ => [.bool true], fun _ => []⟩
def fullGo (i : Nat) : List PV → List PV
  | [] => []
  | e :: es => .agg [.int .i64 i, .str e.S] :: fullGo (i + 1) es
theorem fullGo_len : ∀ (es : List PV) (i : Nat), (fullGo i es).length = es.length
  | [], _ => rfl
  | e :: es, i => by simp [fullGo, fullGo_len es]
theorem fullGo_snoc (x : PV) : ∀ (es : List PV) (i : Nat), fullGo i (es ++ [x]) = fullGo i es ++ [.agg [.int .i64 (i + es.length : Nat), .str x.S]]
  | [], i => by simp [fullGo]
  | e :: es, i => by simp [fullGo, fullGo_snoc x es]; omega

def c_fullView : FSpec := ⟨[(.rd, .int .i64), (.rd, .int .i64), (.rd, .int .i64), (.rd, .list .str)], [.agg [.int .i64, .int .i64, .bool, .int .i64, .int .i64, .list (.agg [.int .i64, .str])]], true, fun ps => (nth ps 3).L.length ≤ 1048576, fun ps => [.agg [.int .i64 (nth ps 0).I, .int .i64 0, .bool true, .int .i64 (nth ps 1).I, .int .i64 (nth ps 2).I, .list (fullGo 0 (nth ps 3).L)]], fun _ => []⟩
def c_l11Full : FSpec := { c_fullView with pre := fun ps => (nth ps 3).L.length ≤ 1048576 ∧ ((nth ps 3).L.length : Int) = (nth ps 2).I }
theorem k_l11Full : FnOk Try.prog 47 c_l11Full := by
  refine fn_mk [0, 1, 2, 3, 8, 9, 10] [.cell 8 48] (env_nil (tyTab_ok [])) mixed Try.func47 rfl (by decide) rfl (by decide) rfl ?_
  intro ps hT hpre W hW
  simp only [c_l11Full, TyA, Ty, Tys] at hT hpre
  simp only [c_fullView, TyA, Ty, Tys] at hT hpre
  obtain ⟨_, _, rfl, ⟨n, rfl, hn⟩, _, _, rfl, ⟨w, rfl, hw⟩, _, _, rfl, ⟨h, rfl, hh⟩, _, _, rfl, ⟨es, rfl, hes, tes⟩, rfl⟩ := hT
  simp only [nth_zero, nth_succ, pv_L, pv_I] at hpre
  obtain ⟨hpre, rfl⟩ := hpre
  refine hW.vc [(5, [9, 11], .take 0 <| .take 1 <| .take 2 <| .take 3 <| .take 4 <| .take 5 <| .take 6 <| .take 7 <| .alt 8 (.alt 9 (.take 10 <| .alt 11 (.done) .stop) .stop) .stop)] _ _ ?_
  simp [-List.getD_eq_getElem?_getD, c_l11Full, c_fullView, c_fullView]
  refine hW.loopS _ _ _ [.bx 9 [.int .i64, .int .i64, .bool, .int .i64, .int .i64, .list (.agg [.int .i64, .str])], .sl 10 .dp (.int .i64)] (fun ys => ∃ (i : Nat), ys = [.agg [.int .i64 n, .int .i64 0, .bool true, .int .i64 w, .int .i64 es.length, .list (fullGo 0 (es.take i))], .int .i64 i] ∧ i ≤ es.length) (fun ys => es.length - (nth ys 1).I.toNat) ?_ ?_
  · simp [-List.getD_eq_getElem?_getD, c_l11Full, c_fullView, c_fullView]
    exact ⟨0, ⟨by simp [fullGo], rfl⟩, by simp⟩
  · rintro ys ⟨i, rfl, g1⟩
    refine hW.vc [(5, [9, 11], .take 0 <| .take 1 <| .take 2 <| .take 3 <| .take 4 <| .take 5 <| .take 6 <| .take 7 <| .alt 8 (.alt 9 (.take 10 <| .alt 11 (.done) .stop) .stop) .stop)] _ _ ?_
    simp [-List.getD_eq_getElem?_getD, c_l11Full, c_fullView, c_fullView]
    refine ⟨fun g2 => ⟨by decide +kernel, g2, fun _ => ⟨by rw [fullGo_len, List.length_take]; omega, fun _ => ⟨⟨i + 1, ⟨?_, by rw [wrap64 (by omega)]; omega⟩, by omega⟩, by rw [wrap64 (by omega)]; omega⟩⟩⟩, fun g2 => by rw [List.take_of_length_le g2]⟩
    rw [take_nth g2, fullGo_snoc, List.length_take, Nat.min_eq_left g1, Nat.zero_add]

/-- A view. -/
structure VW where
  n : Int
  f : Int
  u : Bool
  w : Int
  h : Int
  r : List PV
def VW.pv (v : VW) : PV := .agg [.int .i64 v.n, .int .i64 v.f, .bool v.u, .int .i64 v.w, .int .i64 v.h, .list v.r]
def VW.no : VW := ⟨0, 0, false, 0, 0, []⟩
def fullOf (n w h : Int) (es : List PV) : VW × Int :=
  if 4096 < (es.length : Int) then (VW.no, 2) else if inB n 0 60 = false ∨ sizeB w h = false then (VW.no, 4) else if rowsB es w h = false then (VW.no, 1) else (⟨n, 0, true, w, h, fullGo 0 es⟩, 0)
theorem rowsB_len' {es : List PV} {w h : Int} (hl : rowsB es w h = true) : (es.length : Int) = h := by simp [rowsB] at hl; exact hl.1
theorem not_or_ff {a b : Bool} (ha : a = true) (hb : b = true) : ¬ (a = false ∨ b = false) := by subst ha; subst hb; simp

def c_iFullView : FSpec := ⟨[(.rd, .int .i64), (.rd, .int .i64), (.rd, .int .i64), (.rd, .list .str)], [.agg [.int .i64, .int .i64, .bool, .int .i64, .int .i64, .list (.agg [.int .i64, .str])], .int .i64], true, fun _ => True,
  fun ps => [(fullOf (nth ps 0).I (nth ps 1).I (nth ps 2).I (nth ps 3).L).1.pv, .int .i64 (fullOf (nth ps 0).I (nth ps 1).I (nth ps 2).I (nth ps 3).L).2], fun _ => []⟩
def c_sFullView : FSpec := c_iFullView
theorem k_sFullView : FnOk Try.prog 18 c_sFullView := by
  refine fn_mk [0, 1, 2, 3, 8, 9] [.cell 8 48, .tmp 9] (env_cons (cs := []) k_l11Full (env_cons (cs := []) k_l11Rows (env_cons (cs := []) k_l04Size (env_cons (cs := []) k_l01In (env_nil (tyTab_ok [])))))) mixed Try.func18 rfl (by decide) rfl (by decide) rfl ?_
  intro ps hT hpre W hW
  simp only [c_sFullView, TyA, Ty, Tys] at hT hpre
  simp only [c_iFullView, TyA, Ty, Tys] at hT hpre
  obtain ⟨_, _, rfl, ⟨n, rfl, hn⟩, _, _, rfl, ⟨w, rfl, hw⟩, _, _, rfl, ⟨h, rfl, hh⟩, _, _, rfl, ⟨es, rfl, hes, tes⟩, rfl⟩ := hT
  refine hW.vc [] _ _ ?_
  simp [-List.getD_eq_getElem?_getD, c_sFullView, c_l01In, c_l04Size, c_l11Rows, c_l11Full, c_iFullView, c_within, c_isSize, c_fullView, c_within, c_iFullView, c_fullView, VW.pv]
  refine fun _ => ⟨fun h1 => ?_, fun h1 => ⟨fun h2 => ?_, fun h2 h3 => ⟨size_wOk h3, fun h4 => ?_, fun h4 => ⟨⟨by omega, rowsB_len' h4⟩, ?_⟩⟩⟩⟩
  · rw [fullOf, if_pos h1]; simp [VW.no]
  · rw [fullOf, if_neg (Int.not_lt.2 h1), if_pos h2]; simp [VW.no]
  · rw [fullOf, if_neg (Int.not_lt.2 h1), if_neg (not_or_ff h2 h3), if_pos h4]; simp [VW.no]
  · rw [fullOf, if_neg (Int.not_lt.2 h1), if_neg (not_or_ff h2 h3), if_neg (by simp [h4])]; simp

end Go.Proofs.Ytkofjkjcbljkdaa
end

section
namespace Go.Proofs.Ytkofjkjcbljkdaa
variable [LaidG]
set_option maxRecDepth 100000
set_option linter.unusedSimpArgs false

def byteOf (x : Int) : UInt8 := UInt8.ofNat (x % 256).toNat
theorem byteOf_nat (x : Int) : ((byteOf x).toNat : Int) = x % 256 := by
  have h1 := Int.emod_nonneg x (show (256 : Int) ≠ 0 by omega)
  have h2 := Int.emod_lt_of_pos x (show (0 : Int) < 256 by omega)
  unfold byteOf
  rw [UInt8.toNat_ofNat', Nat.mod_eq_of_lt (by omega)]
  omega
theorem wrap8_byte (x : Int) : IntKind.u8.wrap x = (byteOf x).toNat := by
  rw [byteOf_nat]; simp [IntKind.wrap, IntKind.signed, IntKind.bits]

/-- A number's bytes, the greatest first. -/
def nB (n : Int) (k : Nat) : List UInt8 := (List.range k).map fun i => byteOf (n / 256 ^ (k - 1 - i))
theorem nB_len (n : Int) (k : Nat) : (nB n k).length = k := by simp [nB]
theorem nB_get {n : Int} {k i : Nat} (h : i < k) : (nB n k).getD i 0 = byteOf (n / 256 ^ (k - 1 - i)) := by
  simp [nB, h]
theorem nB_take {n : Int} {k i : Nat} (h : i < k) : (nB n k).take (i + 1) = (nB n k).take i ++ [byteOf (n / 256 ^ (k - 1 - i))] := by
  rw [List.take_succ_eq_append_getElem (by rw [nB_len]; exact h)]; simp [nB]
theorem nB_drop {n : Int} {k i : Nat} (h : i < k) : (nB n k).drop i = byteOf (n / 256 ^ (k - 1 - i)) :: (nB n k).drop (i + 1) := by
  rw [List.drop_eq_getElem_cons (by rw [nB_len]; exact h)]; simp [nB]

theorem bytesPV_len (l : List UInt8) : (bytesPV l).length = l.length := by simp [bytesPV]
theorem bytesPV_app (l m : List UInt8) : bytesPV (l ++ m) = bytesPV l ++ bytesPV m := by simp [bytesPV]
theorem bytesPV_one (b : UInt8) : bytesPV [b] = [.int .u8 b.toNat] := rfl
theorem pvBytes_bytes (l : List UInt8) : pvBytes (bytesPV l) = l := by
  simp only [pvBytes, bytesPV, List.map_map]
  conv => rhs; rw [← List.map_id l]
  exact List.map_congr_left fun b _ => by simp [pv_I]
theorem bytesPV_take (l : List UInt8) (i : Nat) : bytesPV (l.take i) = (bytesPV l).take i := by simp [bytesPV]

theorem shr8 {n : Int} {i : Nat} (h : 0 ≤ n) (hi : i ≤ 7) : shrI .i64 n (8 * i : Nat) = n / 256 ^ i := by
  unfold shrI
  have e : min (((8 * i : Nat) : Int).toNat) IntKind.i64.bits = 8 * i := by
    have : IntKind.i64.bits = 64 := rfl
    rw [this, Int.toNat_natCast]; omega
  rw [e, Int.fdiv_eq_ediv_of_nonneg _ (Int.pow_nonneg (by omega)), Int.pow_mul]
  rfl

def c_bigBytes : FSpec := ⟨[(.rd, .int .i64), (.rd, .int .i64)], [.str], true, fun ps => 0 ≤ (nth ps 0).I ∧ 0 ≤ (nth ps 1).I ∧ (nth ps 1).I ≤ 8, fun ps => [.str (nB (nth ps 0).I (nth ps 1).I.toNat)], fun _ => []⟩
theorem k_bigBytes : FnOk Try.prog 92 c_bigBytes := by
  refine fn_mk [0, 1, 4, 5, 6] [.tmp 4] (env_nil (tyTab_ok [])) mixed Try.func92 rfl (by decide) rfl (by decide) rfl ?_
  intro ps hT hpre W hW
  simp only [c_bigBytes, TyA, Ty, Tys] at hT hpre
  obtain ⟨_, _, rfl, ⟨n, rfl, hn⟩, _, _, rfl, ⟨k, rfl, hk⟩, rfl⟩ := hT
  simp only [nth_zero, nth_succ, pv_I] at hpre
  obtain ⟨hp1, hp2, hp3⟩ := hpre
  obtain ⟨m, rfl⟩ := Int.eq_ofNat_of_zero_le hp2
  rw [inR64] at hn
  refine hW.vc [] _ _ ?_
  simp [-List.getD_eq_getElem?_getD, c_bigBytes]
  refine ⟨by omega, hW.loopS _ _ _ [.sl 0 .dp (.int .i64), .sl 5 .dp (.list (.int .u8)), .sl 6 .dp (.int .i64)] (fun ys => ∃ j : Nat, ys = [.int .i64 (n / 256 ^ (m - j)), .list (List.replicate j (.int .u8 0) ++ (bytesPV (nB n m)).drop j), .int .i64 (j - 1)] ∧ j ≤ m) (fun ys => ((nth ys 2).I + 1).toNat) ?_ ?_⟩
  · simp [-List.getD_eq_getElem?_getD, c_bigBytes]
    refine ⟨m, ⟨by simp, by rw [List.drop_eq_nil_of_le (by rw [bytesPV_len, nB_len]; omega), List.append_nil], by rw [wrap64 (by omega)]⟩, by omega⟩
  · rintro ys ⟨j, rfl, h1⟩
    refine hW.vc [] _ _ ?_
    simp [-List.getD_eq_getElem?_getD, c_bigBytes]
    rw [bytesPV_len, nB_len]
    refine ⟨fun h2 => ⟨⟨h2, by omega⟩, by omega, ⟨j - 1, ⟨?_, ?_, by rw [wrap64 (by omega)]; omega⟩, by omega⟩, by rw [wrap64 (by omega)]; omega⟩, fun h2 => ?_⟩
    · have e : m - (j - 1) = (m - j) + 1 := by omega
      have := shr8 (n := n / 256 ^ (m - j)) (i := 1) (Int.ediv_nonneg hp1 (Int.pow_nonneg (by omega))) (by omega)
      rw [e, Int.pow_succ, ← Int.ediv_ediv_of_nonneg (Int.pow_nonneg (by omega))]
      simpa using this
    · have h3 : (bytesPV (nB n m)).drop (j - 1) = .int .u8 (byteOf (n / 256 ^ (m - j))).toNat :: (bytesPV (nB n m)).drop j := by
        have h4 := nB_drop (n := n) (show j - 1 < m by omega)
        have e1 : m - 1 - (j - 1) = m - j := by omega
        have e2 : j - 1 + 1 = j := by omega
        rw [e1, e2] at h4
        simp only [bytesPV, ← List.map_drop, h4, List.map_cons]
      have h5 : List.replicate j (PV.int IntKind.u8 0) = List.replicate (j - 1) (PV.int IntKind.u8 0) ++ [PV.int IntKind.u8 0] := by
        have : j = (j - 1) + 1 := by omega
        rw [this, List.replicate_succ']; simp
      rw [h3, wrap8_byte, h5, List.append_assoc, List.set_append_right _ _ (by simp), List.length_replicate, Nat.sub_self]
      rfl
    · have : j = 0 := by omega
      subst this
      simp [pvBytes_bytes]

def c_l02Number : FSpec := ⟨[(.rd, .int .i64), (.rd, .int .i64)], [.list (.int .u8)], true, fun ps => 0 ≤ (nth ps 0).I ∧ 0 ≤ (nth ps 1).I ∧ (nth ps 1).I ≤ 7, fun ps => [.list (bytesPV (nB (nth ps 0).I (nth ps 1).I.toNat))], fun _ => []⟩
theorem k_l02Number : FnOk Try.prog 96 c_l02Number := by
  refine fn_mk [0, 1, 4, 5, 6] [.tmp 4] (env_nil (tyTab_ok [])) mixed Try.func96 rfl (by decide) rfl (by decide) rfl ?_
  intro ps hT hpre W hW
  simp only [c_l02Number, TyA, Ty, Tys] at hT hpre
  obtain ⟨_, _, rfl, ⟨n, rfl, hn⟩, _, _, rfl, ⟨k, rfl, hk⟩, rfl⟩ := hT
  simp only [nth_zero, nth_succ, pv_I] at hpre
  obtain ⟨hp1, hp2, hp3⟩ := hpre
  obtain ⟨m, rfl⟩ := Int.eq_ofNat_of_zero_le hp2
  rw [inR64] at hn
  refine hW.vc [] _ _ ?_
  simp [-List.getD_eq_getElem?_getD, c_l02Number]
  refine hW.loopS _ _ _ [.sl 5 .dp (.list (.int .u8)), .sl 6 .dp (.int .i64)] (fun ys => ∃ j : Nat, ys = [.list (bytesPV ((nB n m).take (m - j))), .int .i64 (j - 1)] ∧ j ≤ m) (fun ys => ((nth ys 1).I + 1).toNat) ?_ ?_
  · simp [-List.getD_eq_getElem?_getD, c_l02Number]
    refine ⟨m, ⟨by simp [bytesPV], by rw [wrap64 (by omega)]⟩, by omega⟩
  · rintro ys ⟨j, rfl, h1⟩
    refine hW.vc [] _ _ ?_
    simp [-List.getD_eq_getElem?_getD, c_l02Number]
    refine ⟨fun h2 => ?_, fun h2 => ?_⟩
    · have e0 : (8 * ((j : Int) - 1)) = ((8 * (j - 1) : Nat) : Int) := by omega
      have e1 : IntKind.u64.wrap (IntKind.i64.wrap (8 * ((j : Int) - 1))) = ((8 * (j - 1) : Nat) : Int) := by
        rw [wrap64 (by omega), e0]
        simp [IntKind.wrap, IntKind.signed, IntKind.bits]; omega
      rw [e1, shr8 hp1 (by omega), wrap8_byte, wrap64 (by omega), bytesPV_len, List.length_take, nB_len]
      refine ⟨by omega, by omega, fun _ => ⟨⟨j - 1, ⟨?_, by omega⟩, by omega⟩, by omega⟩⟩
      have h4 := nB_take (n := n) (show m - j < m by omega)
      have e2 : m - 1 - (m - j) = j - 1 := by omega
      have e3 : m - j + 1 = m - (j - 1) := by omega
      rw [e2, e3] at h4
      rw [h4, bytesPV_app, bytesPV_one]
    · have : j = 0 := by omega
      subst this
      rw [Nat.sub_zero, List.take_of_length_le (by rw [nB_len]; omega)]

def bitI (b : Bool) : Int := if b then 1 else 0
def c_bit : FSpec := ⟨[(.rd, .bool)], [.int .i64], true, fun _ => True, fun ps => [.int .i64 (bitI (nth ps 0).B)], fun _ => []⟩
theorem k_bit : FnOk Try.prog 91 c_bit := by
  refine fn_mk [0, 2] [.tmp 2] (env_nil (tyTab_ok [])) mixed Try.func91 rfl (by decide) rfl (by decide) rfl ?_
  intro ps hT hpre W hW
  simp only [c_bit, TyA, Ty, Tys] at hT hpre
  obtain ⟨_, _, rfl, ⟨b, rfl⟩, rfl⟩ := hT
  refine hW.vc [] _ _ ?_
  cases b <;> simp [-List.getD_eq_getElem?_getD, c_bit, bitI]
def c_l01Bit : FSpec := c_bit
theorem k_l01Bit : FnOk Try.prog 95 c_l01Bit := by
  refine fn_mk [0, 2] [.tmp 2] (env_nil (tyTab_ok [])) mixed Try.func95 rfl (by decide) rfl (by decide) rfl ?_
  intro ps hT hpre W hW
  simp only [c_l01Bit, TyA, Ty, Tys] at hT hpre
  simp only [c_bit, TyA, Ty, Tys] at hT
  obtain ⟨_, _, rfl, ⟨b, rfl⟩, rfl⟩ := hT
  refine hW.vc [] _ _ ?_
  cases b <;> simp [-List.getD_eq_getElem?_getD, c_l01Bit, c_bit, bitI]

def numsB (es : List PV) : List UInt8 := es.flatMap fun e => nB (e.I + 1) 3
theorem numsB_take {es : List PV} {i : Nat} (h : i < es.length) : numsB (es.take (i + 1)) = numsB (es.take i) ++ nB ((nth es i).I + 1) 3 := by
  rw [take_nth h]; simp [numsB]
theorem numsB_len : ∀ (es : List PV), (numsB es).length = 3 * es.length
  | [] => rfl
  | e :: es => by
    have := numsB_len es
    simp only [numsB, List.flatMap_cons, List.length_append, nB_len, List.length_cons] at this ⊢
    omega

def c_l02Numbers : FSpec := ⟨[(.rd, .list (.int .i64))], [.list (.int .u8)], true, fun ps => (nth ps 0).L.length ≤ 1048576 ∧ ∀ e ∈ (nth ps 0).L, -1 ≤ e.I ∧ e.I ≤ 1073741824, fun ps => [.list (bytesPV (numsB (nth ps 0).L))], fun _ => []⟩
theorem k_l02Numbers : FnOk Try.prog 94 c_l02Numbers := by
  refine fn_mk [0, 2, 3, 4] [.tmp 2] (env_cons (cs := []) k_l02Number (env_nil (tyTab_ok []))) mixed Try.func94 rfl (by decide) rfl (by decide) rfl ?_
  intro ps hT hpre W hW
  simp only [c_l02Numbers, TyA, Ty, Tys] at hT hpre
  obtain ⟨_, _, rfl, ⟨es, rfl, hes, tes⟩, rfl⟩ := hT
  simp only [nth_zero, pv_L] at hpre
  obtain ⟨hp1, hp2⟩ := hpre
  refine hW.vc [] _ _ ?_
  simp [-List.getD_eq_getElem?_getD, c_l02Numbers, c_l02Number]
  refine hW.loopS _ _ _ [.sl 3 .dp (.list (.int .u8)), .sl 4 .dp (.int .i64)] (fun ys => ∃ i : Nat, ys = [.list (bytesPV (numsB (es.take i))), .int .i64 i] ∧ i ≤ es.length) (fun ys => es.length - (nth ys 1).I.toNat) ?_ ?_
  · simp [-List.getD_eq_getElem?_getD, c_l02Numbers, c_l02Number]
    exact ⟨0, ⟨by simp [numsB, bytesPV], rfl⟩, by omega⟩
  · rintro ys ⟨i, rfl, h1⟩
    refine hW.vc [] _ _ ?_
    simp [-List.getD_eq_getElem?_getD, c_l02Numbers, c_l02Number]
    refine fun _ => ⟨fun h2 => ⟨h2, fun _ => ?_⟩, fun h2 => by rw [List.take_of_length_le h2]⟩
    have h3 := hp2 _ (nth_mem h2)
    rw [wrap64 (n := (nth es i).I + 1) (by omega), wrap64 (n := (i : Int) + 1) (by omega), bytesPV_len, bytesPV_len, nB_len, numsB_len, List.length_take]
    exact ⟨by omega, by omega, fun _ => ⟨⟨i + 1, ⟨by rw [numsB_take h2, bytesPV_app], by omega⟩, by omega⟩, by omega⟩⟩

def fieldsB (es : List PV) : List UInt8 := byteOf es.length :: es.flatMap fun e => nB e.S.length 2 ++ e.S
theorem fieldsB_take {es : List PV} {i : Nat} (n : Int) (h : i < es.length) : (es.take (i + 1)).flatMap (fun e => nB e.S.length 2 ++ e.S) = (es.take i).flatMap (fun e => nB e.S.length 2 ++ e.S) ++ (nB (nth es i).S.length 2 ++ (nth es i).S) := by
  rw [take_nth h]; simp
theorem flds_len {k : Nat} : ∀ {es : List PV}, (∀ e ∈ es, e.S.length ≤ k) → (es.flatMap fun e => nB e.S.length 2 ++ e.S).length ≤ es.length * (k + 2)
  | [], _ => by simp
  | e :: es, h => by
    have h1 := flds_len (es := es) fun x hx => h x (by simp [hx])
    have h2 := h e (by simp)
    simp only [List.flatMap_cons, List.length_append, nB_len, List.length_cons, Nat.add_mul] at h1 ⊢
    omega

def c_l02Fields : FSpec := ⟨[(.rd, .list .str)], [.list (.int .u8)], true, fun ps => (nth ps 0).L.length ≤ 1000 ∧ ∀ e ∈ (nth ps 0).L, e.S.length ≤ 1048576, fun ps => [.list (bytesPV (fieldsB (nth ps 0).L))], fun _ => []⟩
theorem k_l02Fields : FnOk Try.prog 97 c_l02Fields := by
  refine fn_mk [0, 2, 3, 4] [.tmp 2] (env_cons (cs := []) k_l02Number (env_nil (tyTab_ok []))) mixed Try.func97 rfl (by decide) rfl (by decide) rfl ?_
  intro ps hT hpre W hW
  simp only [c_l02Fields, TyA, Ty, Tys] at hT hpre
  obtain ⟨_, _, rfl, ⟨es, rfl, hes, tes⟩, rfl⟩ := hT
  simp only [nth_zero, pv_L] at hpre
  obtain ⟨hp1, hp2⟩ := hpre
  refine hW.vc [(5, [7, 12], .take 0 <| .take 1 <| .take 2 <| .take 3 <| .take 4 <| .take 5 <| .take 8 <| .take 9 <| .alt 6 (.alt 7 (.take 10 <| .take 11 <| .alt 12 (.alt 13 (.done) .stop) .stop) (.alt 10 (.alt 7 (.take 11 <| .alt 12 (.alt 13 (.done) .stop) .stop) (.alt 11 (.alt 7 (.alt 12 (.alt 13 (.done) .stop) .stop) .stop) .stop)) .stop)) (.alt 10 (.alt 6 (.alt 7 (.take 11 <| .alt 12 (.alt 13 (.done) .stop) .stop) (.alt 11 (.alt 7 (.alt 12 (.alt 13 (.done) .stop) .stop) .stop) .stop)) (.alt 11 (.alt 6 (.alt 7 (.alt 12 (.alt 13 (.done) .stop) .stop) .stop) .stop) .stop)) .stop))] _ _ ?_
  simp [-List.getD_eq_getElem?_getD, c_l02Fields, c_l02Number]
  refine fun h1 => hW.loopS _ _ _ [.sl 3 .dp (.list (.int .u8)), .sl 4 .dp (.int .i64)] (fun ys => ∃ i : Nat, ys = [.list (bytesPV (byteOf es.length :: (es.take i).flatMap fun e => nB e.S.length 2 ++ e.S)), .int .i64 i] ∧ i ≤ es.length) (fun ys => es.length - (nth ys 1).I.toNat) ?_ ?_
  · simp [-List.getD_eq_getElem?_getD, c_l02Fields, c_l02Number]
    exact ⟨0, ⟨by simp [bytesPV, wrap8_byte], rfl⟩, by omega⟩
  · rintro ys ⟨i, rfl, h2⟩
    refine hW.vc [(5, [7, 12], .take 0 <| .take 1 <| .take 2 <| .take 3 <| .take 4 <| .take 5 <| .take 8 <| .take 9 <| .alt 6 (.alt 7 (.take 10 <| .take 11 <| .alt 12 (.alt 13 (.done) .stop) .stop) (.alt 10 (.alt 7 (.take 11 <| .alt 12 (.alt 13 (.done) .stop) .stop) (.alt 11 (.alt 7 (.alt 12 (.alt 13 (.done) .stop) .stop) .stop) .stop)) .stop)) (.alt 10 (.alt 6 (.alt 7 (.take 11 <| .alt 12 (.alt 13 (.done) .stop) .stop) (.alt 11 (.alt 7 (.alt 12 (.alt 13 (.done) .stop) .stop) .stop) .stop)) (.alt 11 (.alt 6 (.alt 7 (.alt 12 (.alt 13 (.done) .stop) .stop) .stop) .stop) .stop)) .stop))] _ _ ?_
    simp [-List.getD_eq_getElem?_getD, c_l02Fields, c_l02Number]
    refine fun _ => ⟨fun h3 => ?_, fun h3 => by rw [List.take_of_length_le h3]; rfl⟩
    have hA : (bytesPV (byteOf es.length :: (es.take i).flatMap fun e => nB e.S.length 2 ++ e.S)).length ≤ 1100000000 := by
      rw [bytesPV_len, List.length_cons]
      have := flds_len (k := 1048576) (es := es.take i) fun e he => hp2 e (List.mem_of_mem_take he)
      rw [List.length_take, Nat.min_eq_left h2] at this
      omega
    have hB : (bytesPV (nB ((nth es i).S.length : Int) 2)).length = 2 := by rw [bytesPV_len, nB_len]
    have hS : (bytesPV (nth es i).S).length ≤ 1048576 := by rw [bytesPV_len]; exact hp2 _ (nth_mem h3)
    rw [wrap64 (n := (i : Int) + 1) (by omega)]
    generalize hX : bytesPV (byteOf es.length :: (es.take i).flatMap fun e => nB e.S.length 2 ++ e.S) = X at *
    have hfin : (∃ i_1 : Nat, (X ++ (bytesPV (nB ((nth es i).S.length : Int) 2) ++ bytesPV (nth es i).S) = bytesPV (byteOf es.length :: (es.take i_1).flatMap fun e => nB e.S.length 2 ++ e.S) ∧ (i : Int) + 1 = i_1) ∧ i_1 ≤ es.length) ∧ es.length - ((i : Int) + 1).toNat < es.length - i := by
      refine ⟨⟨i + 1, ⟨?_, by omega⟩, by omega⟩, by omega⟩
      rw [← hX, fieldsB_take 0 h3, ← bytesPV_app, ← bytesPV_app, List.cons_append]
    exact ⟨by decide +kernel, h3, fun _ _ => ⟨⟨by omega, fun _ => ⟨h3, fun _ => ⟨by omega, fun _ => hfin⟩⟩⟩, h3, ⟨by omega, fun _ => ⟨h3, fun _ => ⟨by omega, fun _ => hfin⟩⟩⟩, h3, fun _ => ⟨by omega, fun _ => ⟨by omega, fun _ => hfin⟩⟩⟩⟩

def eqB (x y : PV) : Bool := x.I == y.I
theorem eqB_refl (es : List PV) : eqL eqB es es = true := eqL_refl fun _ => by simp [eqB]
def c_eqByteS : FSpec := ⟨[(.rd, .list (.int .u8)), (.rd, .list (.int .u8))], [.bool], true, fun _ => True, fun ps => [.bool (eqL eqB (nth ps 0).L (nth ps 1).L)], fun _ => []⟩
/-- Bytes marked. -/
def markB (k : Int) : Nat → List PV
  | 0 => []
  | n + 1 => .int .u8 (byteOf k).toNat :: markB (k + 1) n
theorem markB_len : ∀ (n : Nat) (k : Int), (markB k n).length = n
  | 0, _ => rfl
  | n + 1, k => by simp [markB, markB_len n]
theorem markB_snoc : ∀ (n : Nat) (k : Int), markB k (n + 1) = markB k n ++ [.int .u8 (byteOf (k + n)).toNat]
  | 0, k => by simp [markB]
  | n + 1, k => by
    rw [markB, markB_snoc n (k + 1), markB, List.cons_append]
    have e : k + 1 + (n : Int) = k + ((n + 1 : Nat) : Int) := by omega
    rw [e]
def c_markByteS : FSpec := ⟨[(.mt, .list (.int .u8)), (.rd, .int .i64)], [.int .i64], true, fun ps => 0 ≤ (nth ps 1).I ∧ (nth ps 1).I + (nth ps 0).L.length ≤ 1073741823, fun ps => [.int .i64 ((nth ps 1).I + (nth ps 0).L.length)], fun ps => [.list (markB (nth ps 1).I (nth ps 0).L.length)]⟩
def heldB1 (k : Int) (e : PV) : Bool := e.I == (byteOf k).toNat
theorem heldB_mark (n : Nat) (k : Int) : heldGo heldB1 1 k (markB k n) = k + n := by
  rw [held_marked (m := markB) (fun _ => rfl) (fun k n => ⟨_, rfl, by simp [heldB1, pv_I]⟩), Int.one_mul]
def c_heldByteS : FSpec := ⟨[(.rd, .list (.int .u8)), (.rd, .int .i64)], [.int .i64], true, fun ps => 0 ≤ (nth ps 1).I ∧ (nth ps 1).I + (nth ps 0).L.length ≤ 1073741823, fun ps => [.int .i64 (heldGo heldB1 1 (nth ps 1).I (nth ps 0).L)], fun _ => []⟩
theorem up_get' {w h : Int} : ∀ {es : List PV} {p : Int}, upB w h p es = true → ∀ i, i < es.length → (0 ≤ (nth (nth es i).A 0).I ∧ (nth (nth es i).A 0).I < h) ∧ ((nth (nth es i).A 1).S.length : Int) = 4 * w
  | [], p, hu, i, hi => by simp at hi
  | e :: es, p, hu, 0, hi => by
    simp only [upB, Bool.and_eq_true, inB, decide_eq_true_eq, rowB] at hu
    rw [nth_zero]; omega
  | e :: es, p, hu, i + 1, hi => by
    simp only [upB, Bool.and_eq_true] at hu
    rw [nth_succ]
    exact up_get' hu.2 i (by simpa using hi)
theorem up_all {w h p : Int} {es : List PV} (hu : upB w h p es = true) : ∀ e ∈ es, (0 ≤ (nth e.A 0).I ∧ (nth e.A 0).I < h) ∧ ((nth e.A 1).S.length : Int) = 4 * w := by
  intro e he
  obtain ⟨i, hi, rfl⟩ := List.mem_iff_getElem.1 he
  have := up_get' hu i hi
  rwa [nth_eq hi] at this
theorem vw_facts {n f w h : Int} {u : Bool} {es : List PV} (hv : viewB [.int .i64 n, .int .i64 f, .bool u, .int .i64 w, .int .i64 h, .list es] = true) :
    (0 ≤ n ∧ n ≤ 60 ∧ 0 ≤ f ∧ f ≤ 60 ∧ 2 ≤ w ∧ w ≤ 24 ∧ 2 ≤ h ∧ h ≤ 10 ∧ (es.length : Int) ≤ h) ∧ upB w h (-1) es = true ∧ (u = true → (es.length : Int) = h ∧ f = 0) ∧ (u = false → f < n) := by
  have e1 : inB n 0 60 = true ∧ sizeB w h = true ∧ leB es.length h = true ∧ upB w h (-1) es = true ∧ selB u (f == 0 && (es.length : Int) == h) (inB f 0 (n - 1)) = true := by
    simpa [viewB, nth_zero, nth_succ, pv_I, pv_L, pv_B, and_assoc] using hv
  obtain ⟨h1, h2, h4, h5, h6⟩ := e1
  simp only [inB, sizeB, leB, Bool.and_eq_true, decide_eq_true_eq] at h1 h2 h4
  have h7 : (u = true → (es.length : Int) = h ∧ f = 0) ∧ (u = false → 0 ≤ f ∧ f < n) := by
    cases u
    · simp [selB, inB] at h6 ⊢; omega
    · simp [selB] at h6 ⊢; omega
  refine ⟨?_, h5, h7.1, fun hu => (h7.2 hu).2⟩
  cases u
  · have := h7.2 rfl; omega
  · have := h7.1 rfl; omega

def VW.ls' (v : VW) : List PV := [.int .i64 v.n, .int .i64 v.f, .bool v.u, .int .i64 v.w, .int .i64 v.h, .list v.r]
/-- The encoding of a view. -/
def viewT (v : VW) : List UInt8 := fieldsB (.str (numsB [.int .i64 v.n, .int .i64 v.f, .int .i64 (bitI v.u), .int .i64 v.w, .int .i64 v.h]) :: v.r.map fun e => .str (nB (nth e.A 0).I 1 ++ (nth e.A 1).S))
def c_l11Bytes : FSpec := ⟨[(.rd, .agg [.int .i64, .int .i64, .bool, .int .i64, .int .i64, .list (.agg [.int .i64, .str])])], [.str], true, fun ps => viewB (nth ps 0).A = true, fun ps => [.str (viewT ⟨(nth (nth ps 0).A 0).I, (nth (nth ps 0).A 1).I, (nth (nth ps 0).A 2).B, (nth (nth ps 0).A 3).I, (nth (nth ps 0).A 4).I, (nth (nth ps 0).A 5).L⟩)], fun _ => []⟩
theorem k_l11Bytes : FnOk Try.prog 52 c_l11Bytes := by
  refine fn_mk [0, 1, 2, 3, 4] [.tmp 2] (env_cons (cs := []) k_l01Bit (env_cons (cs := []) k_l02Fields (env_cons (cs := []) k_l02Number (env_cons (cs := []) k_l02Numbers (env_nil (tyTab_ok [])))))) mixed Try.func52 rfl (by decide) rfl (by decide) rfl ?_
  intro ps hT hpre W hW
  simp only [c_l11Bytes, TyA, Ty, Tys] at hT hpre
  obtain ⟨_, _, rfl, ⟨_, rfl, _, _, rfl, ⟨n, rfl, hn⟩, _, _, rfl, ⟨f, rfl, hf⟩, _, _, rfl, ⟨u, rfl⟩, _, _, rfl, ⟨w, rfl, hw⟩, _, _, rfl, ⟨h, rfl, hh⟩, _, _, rfl, ⟨es, rfl, hes, tes⟩, rfl⟩, rfl⟩ := hT
  simp only [nth_zero, pv_A] at hpre
  refine hW.vc [(1, [], .take 0 <| .take 1 <| .take 2 <| .take 3 <| .take 4 <| .take 5 <| .take 7 <| .take 8 <| .take 9 <| .take 10 <| .alt 6 (.alt 11 (.alt 12 (.take 13 <| .alt 14 (.alt 15 (.done) .stop) .stop) .stop) .stop) .stop), (5, [17], .take 0 <| .take 1 <| .take 2 <| .take 3 <| .take 4 <| .take 5 <| .take 6 <| .take 9 <| .take 10 <| .take 11 <| .take 12 <| .take 13 <| .take 14 <| .alt 7 (.take 8 <| .take 15 <| .alt 16 (.alt 17 (.alt 18 (.done) .stop) .stop) .stop) .stop)] _ _ ?_
  simp [-List.getD_eq_getElem?_getD, c_l11Bytes, c_l02Numbers, c_l02Number, c_l02Fields, c_l01Bit, c_bit, c_bit]
  obtain ⟨g1, g2, g3, g4⟩ := vw_facts hpre
  have hup := up_get' g2
  have hb : -1 ≤ bitI u ∧ bitI u ≤ 1073741824 := by cases u <;> simp [bitI]
  refine ⟨by decide +kernel, rfl, ⟨by omega, by omega, hb, by omega, by omega⟩, ?_⟩
  rw [pvBytes_bytes]
  refine hW.loopS _ _ _ [.sl 3 .dp (.list .str), .sl 4 .dp (.int .i64)] (fun ys => ∃ i : Nat, ys = [.list (.str (numsB [.int .i64 n, .int .i64 f, .int .i64 (bitI u), .int .i64 w, .int .i64 h]) :: (es.take i).map fun e => .str (nB (nth e.A 0).I 1 ++ (nth e.A 1).S)), .int .i64 i] ∧ i ≤ es.length) (fun ys => es.length - (nth ys 1).I.toNat) ?_ ?_
  · simp [-List.getD_eq_getElem?_getD, c_l11Bytes, c_l02Numbers, c_l02Number, c_l02Fields, c_l01Bit, c_bit, c_bit]
    exact ⟨0, ⟨by simp, rfl⟩, by omega⟩
  · rintro ys ⟨i, rfl, h2⟩
    refine hW.vc [(1, [], .take 0 <| .take 1 <| .take 2 <| .take 3 <| .take 4 <| .take 5 <| .take 7 <| .take 8 <| .take 9 <| .take 10 <| .alt 6 (.alt 11 (.alt 12 (.take 13 <| .alt 14 (.alt 15 (.done) .stop) .stop) .stop) .stop) .stop), (5, [17], .take 0 <| .take 1 <| .take 2 <| .take 3 <| .take 4 <| .take 5 <| .take 6 <| .take 9 <| .take 10 <| .take 11 <| .take 12 <| .take 13 <| .take 14 <| .alt 7 (.take 8 <| .take 15 <| .alt 16 (.alt 17 (.alt 18 (.done) .stop) .stop) .stop) .stop)] _ _ ?_
    simp [-List.getD_eq_getElem?_getD, c_l11Bytes, c_l02Numbers, c_l02Number, c_l02Fields, c_l01Bit, c_bit, c_bit]
    rw [wrap64 (n := (i : Int) + 1) (by omega)]
    refine fun _ => ⟨fun h3 => ⟨by decide +kernel, h3, fun _ => ⟨h3, fun _ => ⟨(hup i h3).1.1, ?_, by omega, fun _ => ⟨⟨i + 1, ⟨?_, by omega⟩, by omega⟩, by omega⟩⟩⟩⟩, fun h3 => ⟨⟨by omega, ?_, ?_⟩, ?_⟩⟩
    · have := (hup i h3).2
      rw [pvBytes_bytes, nB_len]; omega
    · rw [pvBytes_bytes, take_nth (by simpa using h3), nth_map _ _ _ h3, nth_eq h3]
    · rw [numsB_len]; simp
    · intro a ha
      obtain ⟨e, he, rfl⟩ := List.mem_map.1 (List.mem_of_mem_take ha)
      have := (up_all g2 e he).2
      simp only [pv_S, List.length_append, nB_len]; omega
    · rw [pvBytes_bytes, List.take_of_length_le (by simpa using h3)]; rfl

theorem viewT_len {n f w h : Int} {u : Bool} {es : List PV} (hv : viewB [.int .i64 n, .int .i64 f, .bool u, .int .i64 w, .int .i64 h, .list es] = true) : (viewT ⟨n, f, u, w, h, es⟩).length ≤ 1100 := by
  obtain ⟨g1, g2, g3, g4⟩ := vw_facts hv
  unfold viewT fieldsB
  rw [List.length_cons]
  have := flds_len (k := 97) (es := .str (numsB [.int .i64 n, .int .i64 f, .int .i64 (bitI u), .int .i64 w, .int .i64 h]) :: es.map fun e => .str (nB (nth e.A 0).I 1 ++ (nth e.A 1).S)) fun x hx => by
    rcases List.mem_cons.1 hx with rfl | hx
    · rw [pv_S, numsB_len]; simp
    · obtain ⟨e, he, rfl⟩ := List.mem_map.1 hx
      have := (up_all g2 e he).2
      simp only [pv_S, List.length_append, nB_len]; omega
  rw [List.length_cons, List.length_map] at this
  refine Nat.le_trans (Nat.add_le_add_right this 1) ?_
  omega

def viewBytesOf (v : VW) : List PV × Int := if viewB v.ls' = true then (bytesPV (viewT v), 0) else ([], 1)
theorem vbo_a {v : VW} (h : viewB v.ls' = true) : viewBytesOf v = (bytesPV (viewT v), 0) := if_pos h
theorem vbo_b {v : VW} (h : viewB v.ls' = false) : viewBytesOf v = ([], 1) := if_neg (by simp [h])
theorem vbo_len (v : VW) : (viewBytesOf v).1.length ≤ 1100 := by
  cases h : viewB v.ls' with
  | true => rw [vbo_a h, bytesPV_len]; exact viewT_len h
  | false => rw [vbo_b h]; simp

def c_sViewBytes : FSpec := ⟨[(.rd, .agg [.int .i64, .int .i64, .bool, .int .i64, .int .i64, .list (.agg [.int .i64, .str])])], [.list (.int .u8), .int .i64], true, fun _ => True,
  fun ps => [.list (viewBytesOf ⟨(nth (nth ps 0).A 0).I, (nth (nth ps 0).A 1).I, (nth (nth ps 0).A 2).B, (nth (nth ps 0).A 3).I, (nth (nth ps 0).A 4).I, (nth (nth ps 0).A 5).L⟩).1,
    .int .i64 (viewBytesOf ⟨(nth (nth ps 0).A 0).I, (nth (nth ps 0).A 1).I, (nth (nth ps 0).A 2).B, (nth (nth ps 0).A 3).I, (nth (nth ps 0).A 4).I, (nth (nth ps 0).A 5).L⟩).2], fun _ => []⟩
theorem k_sViewBytes : FnOk Try.prog 22 c_sViewBytes := by
  refine fn_mk [0, 1, 2, 3] [.tmp 2, .tmp 3] (env_cons (cs := []) k_l11Bytes (env_cons (cs := []) k_sViewOK (env_nil (tyTab_ok [])))) mixed Try.func22 rfl (by decide) rfl (by decide) rfl ?_
  intro ps hT hpre W hW
  simp only [c_sViewBytes, TyA, Ty, Tys] at hT hpre
  obtain ⟨_, _, rfl, ⟨_, rfl, _, _, rfl, ⟨n, rfl, hn⟩, _, _, rfl, ⟨f, rfl, hf⟩, _, _, rfl, ⟨u, rfl⟩, _, _, rfl, ⟨w, rfl, hw⟩, _, _, rfl, ⟨h, rfl, hh⟩, _, _, rfl, ⟨es, rfl, hes, tes⟩, rfl⟩, rfl⟩ := hT
  refine hW.vc [] _ _ ?_
  simp [-List.getD_eq_getElem?_getD, c_sViewBytes, c_sViewOK, c_l11Bytes, c_isView, c_isView]
  exact ⟨fun q => by rw [vbo_b (v := ⟨n, f, u, w, h, es⟩) q]; simp, fun q => ⟨q, by rw [vbo_a (v := ⟨n, f, u, w, h, es⟩) q]; simp⟩⟩

end Go.Proofs.Ytkofjkjcbljkdaa
end

section
namespace Go.Proofs.Ytkofjkjcbljkdaa
variable [LaidG]
set_option maxRecDepth 100000
set_option linter.unusedSimpArgs false

def c_szEntry : FSpec := ⟨[(.rd, .agg [.int .i64, .str]), (.rd, .int .i64)], [.int .i64], true, fun ps => 0 ≤ (nth ps 1).I, fun ps => [.int .i64 (szR1 (nth ps 1).I (nth (nth ps 0).A 1).S.length)], fun _ => []⟩
def c_szEntryS : FSpec := ⟨[(.rd, .list (.agg [.int .i64, .str])), (.rd, .int .i64)], [.int .i64], true, fun ps => 0 ≤ (nth ps 1).I, fun ps => [.int .i64 (szGs rowLen (nth ps 0).L (nth ps 1).I)], fun _ => []⟩
def c_toEntry : FSpec := ⟨[(.rd, .agg [.int .i64, .str])], [.agg [.int .i64, .str]], true, fun _ => True, fun ps => [nth ps 0], fun _ => []⟩
def c_toEntryS : FSpec := ⟨[(.rd, .list (.agg [.int .i64, .str]))], [.list (.agg [.int .i64, .str])], true, fun ps => (nth ps 0).L.length ≤ 1048576, fun ps => [.list (nth ps 0).L], fun _ => []⟩
def c_eqEntry : FSpec := ⟨[(.rd, .agg [.int .i64, .str]), (.rd, .agg [.int .i64, .str])], [.bool], true, fun _ => True, fun ps => [.bool (eqRow1 (nth ps 0).A (nth ps 1).A)], fun _ => []⟩
def c_eqEntryS : FSpec := ⟨[(.rd, .list (.agg [.int .i64, .str])), (.rd, .list (.agg [.int .i64, .str]))], [.bool], true, fun _ => True, fun ps => [.bool (eqL eqRow2 (nth ps 0).L (nth ps 1).L)], fun _ => []⟩
def c_markEntryS : FSpec := ⟨[(.mt, .list (.agg [.int .i64, .str])), (.rd, .int .i64)], [.int .i64], true, fun ps => 0 ≤ (nth ps 1).I ∧ (nth ps 1).I + 2 * (nth ps 0).L.length ≤ 1073741823, fun ps => [.int .i64 ((nth ps 1).I + 2 * (nth ps 0).L.length)], fun ps => [.list (markR (nth ps 1).I (nth ps 0).L.length)]⟩
def c_heldEntryS : FSpec := ⟨[(.rd, .list (.agg [.int .i64, .str])), (.rd, .int .i64)], [.int .i64], true, fun ps => 0 ≤ (nth ps 1).I ∧ (nth ps 1).I + 2 * (nth ps 0).L.length ≤ 1073741823, fun ps => [.int .i64 (heldGo heldR1 2 (nth ps 1).I (nth ps 0).L)], fun _ => []⟩
def c_szIntS : FSpec := ⟨[(.rd, .list (.int .i64)), (.rd, .int .i64)], [.int .i64], true, fun ps => 0 ≤ (nth ps 1).I, fun ps => [.int .i64 (szR1 (nth ps 1).I (nth ps 0).L.length)], fun _ => []⟩
def c_toIntS : FSpec := ⟨[(.rd, .list (.int .i64))], [.list (.int .i64)], true, fun ps => (nth ps 0).L.length ≤ 1048576, fun ps => [.list (nth ps 0).L], fun _ => []⟩
def c_eqIntS : FSpec := ⟨[(.rd, .list (.int .i64)), (.rd, .list (.int .i64))], [.bool], true, fun _ => True, fun ps => [.bool (eqL eqB (nth ps 0).L (nth ps 1).L)], fun _ => []⟩
/-- Numbers marked. -/
def markI (k : Int) : Nat → List PV
  | 0 => []
  | n + 1 => .int .i64 k :: markI (k + 1) n
theorem markI_len : ∀ (n : Nat) (k : Int), (markI k n).length = n
  | 0, _ => rfl
  | n + 1, k => by simp [markI, markI_len n]
theorem markI_snoc : ∀ (n : Nat) (k : Int), markI k (n + 1) = markI k n ++ [.int .i64 (k + n)]
  | 0, k => by simp [markI]
  | n + 1, k => by
    rw [markI, markI_snoc n (k + 1), markI, List.cons_append]
    have e : k + 1 + (n : Int) = k + ((n + 1 : Nat) : Int) := by omega
    rw [e]
def c_markIntS : FSpec := ⟨[(.mt, .list (.int .i64)), (.rd, .int .i64)], [.int .i64], true, fun ps => 0 ≤ (nth ps 1).I ∧ (nth ps 1).I + (nth ps 0).L.length ≤ 1073741823, fun ps => [.int .i64 ((nth ps 1).I + (nth ps 0).L.length)], fun ps => [.list (markI (nth ps 1).I (nth ps 0).L.length)]⟩
def heldI1 (k : Int) (e : PV) : Bool := e.I == k
theorem heldI_mark (n : Nat) (k : Int) : heldGo heldI1 1 k (markI k n) = k + n := by
  rw [held_marked (m := markI) (fun _ => rfl) (fun k n => ⟨_, rfl, by simp [heldI1, pv_I]⟩), Int.one_mul]
def c_heldIntS : FSpec := ⟨[(.rd, .list (.int .i64)), (.rd, .int .i64)], [.int .i64], true, fun ps => 0 ≤ (nth ps 1).I ∧ (nth ps 1).I + (nth ps 0).L.length ≤ 1073741823, fun ps => [.int .i64 (heldGo heldI1 1 (nth ps 1).I (nth ps 0).L)], fun _ => []⟩
end Go.Proofs.Ytkofjkjcbljkdaa
end

section
namespace Go.Proofs.Ytkofjkjcbljkdaa
variable [LaidG]
set_option maxRecDepth 100000
set_option linter.unusedSimpArgs false

/-- What is left behind a node's size. -/
def szQ (a : Int) (v x m : Nat) : Int := if a < 0 then -1 else if szR1 a v < 0 then -1 else if szR1 (szR1 a v) x < 0 then -1 else szR1 (szR1 (szR1 a v) x) m
def szN (v : List PV) (l : Int) : Int := szQ (szGs rowLen (nth v 6).L l) (nth v 10).L.length (nth v 11).L.length (nth v 12).L.length
theorem szR1_le {l : Int} {n : Nat} (h : 0 ≤ l) : szR1 l n ≤ l ∧ -1 ≤ szR1 l n ∧ (0 ≤ szR1 l n → (n : Int) ≤ l) := by
  unfold szR1; split <;> omega

def c_szNode : FSpec := ⟨[(.rd, .agg [.int .i64, .int .i64, .int .i64, .int .i64, .int .i64, .bool, .list (.agg [.int .i64, .str]), .int .i64, .int .i64, .int .i64, .list (.int .i64), .list (.int .i64), .list (.int .i64)]), (.rd, .int .i64)], [.int .i64], true, fun ps => 0 ≤ (nth ps 1).I, fun ps => [.int .i64 (szN (nth ps 0).A (nth ps 1).I)], fun _ => []⟩
theorem szN_le {n0 n1 n2 n3 n4 n5 n6 n7 : Int} {u : Bool} {es vs xs ms : List PV} {l : Int} (h : 0 ≤ l) (h2 : 0 ≤ szN [.int .i64 n0, .int .i64 n1, .int .i64 n2, .int .i64 n3, .int .i64 n4, .bool u, .list es, .int .i64 n5, .int .i64 n6, .int .i64 n7, .list vs, .list xs, .list ms] l) :
    (es.length : Int) + vs.length + xs.length + ms.length ≤ 4 * l := by
  simp only [szN, nth_zero, nth_succ, pv_L] at h2
  unfold szQ at h2
  have a1 := szGs_le rowLen_nn (es := es) h
  split at h2
  · omega
  · rename_i q1
    have a2 := szR1_le (n := vs.length) (Int.not_lt.1 q1)
    split at h2
    · omega
    · rename_i q2
      have a3 := szR1_le (n := xs.length) (Int.not_lt.1 q2)
      split at h2
      · omega
      · rename_i q3
        have a4 := szR1_le (n := ms.length) (Int.not_lt.1 q3)
        omega

def c_toNode : FSpec := ⟨[(.rd, .agg [.int .i64, .int .i64, .int .i64, .int .i64, .int .i64, .bool, .list (.agg [.int .i64, .str]), .int .i64, .int .i64, .int .i64, .list (.int .i64), .list (.int .i64), .list (.int .i64)])], [.agg [.int .i64, .int .i64, .int .i64, .int .i64, .int .i64, .bool, .list (.agg [.int .i64, .str]), .int .i64, .int .i64, .int .i64, .list (.int .i64), .list (.int .i64), .list (.int .i64)]], true, fun ps => (nth (nth ps 0).A 6).L.length ≤ 1048576 ∧ (nth (nth ps 0).A 10).L.length ≤ 1048576 ∧ (nth (nth ps 0).A 11).L.length ≤ 1048576 ∧ (nth (nth ps 0).A 12).L.length ≤ 1048576, fun ps => [nth ps 0], fun _ => []⟩
def eqNd (a b : List PV) : Bool := (nth a 0).I == (nth b 0).I && (nth a 1).I == (nth b 1).I && (nth a 2).I == (nth b 2).I && (nth a 3).I == (nth b 3).I && (nth a 4).I == (nth b 4).I && (nth a 5).B == (nth b 5).B && eqL eqRow2 (nth a 6).L (nth b 6).L &&
  (nth a 7).I == (nth b 7).I && (nth a 8).I == (nth b 8).I && (nth a 9).I == (nth b 9).I && eqL eqB (nth a 10).L (nth b 10).L && eqL eqB (nth a 11).L (nth b 11).L && eqL eqB (nth a 12).L (nth b 12).L
def c_eqNode : FSpec := ⟨[(.rd, .agg [.int .i64, .int .i64, .int .i64, .int .i64, .int .i64, .bool, .list (.agg [.int .i64, .str]), .int .i64, .int .i64, .int .i64, .list (.int .i64), .list (.int .i64), .list (.int .i64)]), (.rd, .agg [.int .i64, .int .i64, .int .i64, .int .i64, .int .i64, .bool, .list (.agg [.int .i64, .str]), .int .i64, .int .i64, .int .i64, .list (.int .i64), .list (.int .i64), .list (.int .i64)])], [.bool], true, fun _ => True, fun ps => [.bool (eqNd (nth ps 0).A (nth ps 1).A)], fun _ => []⟩
theorem eqNd_refl (v : List PV) : eqNd v v = true := by simp [eqNd, eqL_refl (f := eqRow2) eqRow2_refl, eqB_refl]

def eqMg (a b : List PV) : Bool := (nth a 0).I == (nth b 0).I && (nth a 1).I == (nth b 1).I && (nth a 2).I == (nth b 2).I && (nth a 3).I == (nth b 3).I && (nth a 4).I == (nth b 4).I && (nth a 5).I == (nth b 5).I && (nth a 6).I == (nth b 6).I && (nth a 7).B == (nth b 7).B && eqL eqRow2 (nth a 8).L (nth b 8).L
theorem eqMg_refl (v : List PV) : eqMg v v = true := by simp [eqMg, eqL_refl (f := eqRow2) eqRow2_refl]
def c_eqMessage : FSpec := ⟨[(.rd, .agg [.int .i64, .int .i64, .int .i64, .int .i64, .int .i64, .int .i64, .int .i64, .bool, .list (.agg [.int .i64, .str])]), (.rd, .agg [.int .i64, .int .i64, .int .i64, .int .i64, .int .i64, .int .i64, .int .i64, .bool, .list (.agg [.int .i64, .str])])], [.bool], true, fun _ => True, fun ps => [.bool (eqMg (nth ps 0).A (nth ps 1).A)], fun _ => []⟩
def eqMg2 (a b : PV) : Bool := eqMg a.A b.A
theorem eqMs_refl (es : List PV) : eqL eqMg2 es es = true := eqL_refl fun _ => eqMg_refl _

def c_eqMessageS : FSpec := ⟨[(.rd, .list (.agg [.int .i64, .int .i64, .int .i64, .int .i64, .int .i64, .int .i64, .int .i64, .bool, .list (.agg [.int .i64, .str])])), (.rd, .list (.agg [.int .i64, .int .i64, .int .i64, .int .i64, .int .i64, .int .i64, .int .i64, .bool, .list (.agg [.int .i64, .str])]))], [.bool], true, fun _ => True, fun ps => [.bool (eqL eqMg2 (nth ps 0).L (nth ps 1).L)], fun _ => []⟩
def c_markNode : FSpec := ⟨[(.mt, .agg [.int .i64, .int .i64, .int .i64, .int .i64, .int .i64, .bool, .list (.agg [.int .i64, .str]), .int .i64, .int .i64, .int .i64, .list (.int .i64), .list (.int .i64), .list (.int .i64)]), (.rd, .int .i64)], [.int .i64], true, fun ps => 0 ≤ (nth ps 1).I ∧ (nth ps 1).I + 2 * (nth (nth ps 0).A 6).L.length + (nth (nth ps 0).A 10).L.length + (nth (nth ps 0).A 11).L.length + (nth (nth ps 0).A 12).L.length ≤ 1073741823,
  fun ps => [.int .i64 ((nth ps 1).I + 2 * (nth (nth ps 0).A 6).L.length + (nth (nth ps 0).A 10).L.length + (nth (nth ps 0).A 11).L.length + (nth (nth ps 0).A 12).L.length)],
  fun ps => [.agg [nth (nth ps 0).A 0, nth (nth ps 0).A 1, nth (nth ps 0).A 2, nth (nth ps 0).A 3, nth (nth ps 0).A 4, nth (nth ps 0).A 5, .list (markR (nth ps 1).I (nth (nth ps 0).A 6).L.length), nth (nth ps 0).A 7, nth (nth ps 0).A 8, nth (nth ps 0).A 9,
    .list (markI ((nth ps 1).I + 2 * (nth (nth ps 0).A 6).L.length) (nth (nth ps 0).A 10).L.length), .list (markI ((nth ps 1).I + 2 * (nth (nth ps 0).A 6).L.length + (nth (nth ps 0).A 10).L.length) (nth (nth ps 0).A 11).L.length),
    .list (markI ((nth ps 1).I + 2 * (nth (nth ps 0).A 6).L.length + (nth (nth ps 0).A 10).L.length + (nth (nth ps 0).A 11).L.length) (nth (nth ps 0).A 12).L.length)]]⟩
def heldN (k : Int) (es vs xs ms : List PV) : Int :=
  if heldGo heldR1 2 k es < 0 then -1 else if heldGo heldI1 1 (heldGo heldR1 2 k es) vs < 0 then -1 else if heldGo heldI1 1 (heldGo heldI1 1 (heldGo heldR1 2 k es) vs) xs < 0 then -1 else
    heldGo heldI1 1 (heldGo heldI1 1 (heldGo heldI1 1 (heldGo heldR1 2 k es) vs) xs) ms
theorem heldN_mark {k : Int} (h : 0 ≤ k) (a b c d : Nat) : heldN k (markR k a) (markI (k + 2 * a) b) (markI (k + 2 * a + b) c) (markI (k + 2 * a + b + c) d) = k + 2 * a + b + c + d := by
  simp only [heldN, heldR_mark, heldI_mark]
  rw [if_neg (by omega), if_neg (by omega), if_neg (by omega)]
theorem held_le {f : Int → PV → Bool} {d : Int} (hd : 0 ≤ d) : ∀ {es : List PV} {k : Int}, 0 ≤ k → heldGo f d k es = -1 ∨ heldGo f d k es = k + d * es.length
  | [], k, hk => by simp [heldGo]
  | e :: es, k, hk => by
    simp only [heldGo]
    split
    · rcases held_le hd (es := es) (k := k + d) (by omega) with h | h
      · exact .inl h
      · refine .inr ?_
        rw [h, List.length_cons, Int.natCast_add, Int.mul_add]; omega
    · exact .inl rfl
def c_heldNode : FSpec := ⟨[(.rd, .agg [.int .i64, .int .i64, .int .i64, .int .i64, .int .i64, .bool, .list (.agg [.int .i64, .str]), .int .i64, .int .i64, .int .i64, .list (.int .i64), .list (.int .i64), .list (.int .i64)]), (.rd, .int .i64)], [.int .i64], true, fun ps => 0 ≤ (nth ps 1).I ∧ (nth ps 1).I + 2 * (nth (nth ps 0).A 6).L.length + (nth (nth ps 0).A 10).L.length + (nth (nth ps 0).A 11).L.length + (nth (nth ps 0).A 12).L.length ≤ 1073741823,
  fun ps => [.int .i64 (heldN (nth ps 1).I (nth (nth ps 0).A 6).L (nth (nth ps 0).A 10).L (nth (nth ps 0).A 11).L (nth (nth ps 0).A 12).L)], fun _ => []⟩
end Go.Proofs.Ytkofjkjcbljkdaa
end

section
namespace Go.Proofs.Ytkofjkjcbljkdaa
variable [LaidG]
set_option maxRecDepth 100000
set_option linter.unusedSimpArgs false

def msN (e : PV) : Int := 8 + 2 * (nth e.A 8).L.length
def mod3 (k : Int) : Bool := k.tmod 3 == 0
def mkM (k : Int) (e : PV) : PV := .agg [.int .i64 k, .int .i64 (k + 1), .int .i64 (k + 2), .int .i64 (k + 3), .int .i64 (k + 4), .int .i64 (k + 5), .int .i64 (k + 6), .bool (mod3 (k + 7)), .list (markR (k + 8) (nth e.A 8).L.length)]
def sumMs (k : Int) : List PV → Int
  | [] => k
  | e :: es => sumMs (k + msN e) es
def markMs (k : Int) : List PV → List PV
  | [] => []
  | e :: es => mkM k e :: markMs (k + msN e) es
theorem sumMs_snoc (x : PV) : ∀ (es : List PV) (k : Int), sumMs k (es ++ [x]) = sumMs k es + msN x
  | [], k => rfl
  | e :: es, k => by simp only [List.cons_append, sumMs]; exact sumMs_snoc x es _
theorem markMs_snoc (x : PV) : ∀ (es : List PV) (k : Int), markMs k (es ++ [x]) = markMs k es ++ [mkM (sumMs k es) x]
  | [], k => rfl
  | e :: es, k => by simp only [List.cons_append, markMs, sumMs]; rw [markMs_snoc x es]
theorem markMs_len : ∀ (es : List PV) (k : Int), (markMs k es).length = es.length
  | [], k => rfl
  | e :: es, k => by simp only [markMs, List.length_cons, markMs_len es]
theorem sumMs_ge : ∀ (es : List PV) (k : Int), k ≤ sumMs k es
  | [], k => Int.le_refl _
  | e :: es, k => by have := sumMs_ge es (k + msN e); simp only [sumMs]; unfold msN at *; omega
theorem sumMs_take (es : List PV) (k : Int) {i : Nat} (h : i < es.length) : sumMs k (es.take i) + msN (nth es i) ≤ sumMs k es := by
  induction es generalizing k i with
  | nil => simp at h
  | cons e es ih =>
    cases i with
    | zero => rw [nth_zero]; exact sumMs_ge es (k + msN e)
    | succ i => rw [nth_succ]; exact ih (k + msN e) (by simpa using h)
/-- Twice marked is once marked. -/
theorem msN_mk (k : Int) (e : PV) : msN (mkM k e) = msN e := by simp [msN, mkM, nth_zero, nth_succ, pv_A, pv_L, markR_len]

def c_markMessageS : FSpec := ⟨[(.mt, .list (.agg [.int .i64, .int .i64, .int .i64, .int .i64, .int .i64, .int .i64, .int .i64, .bool, .list (.agg [.int .i64, .str])])), (.rd, .int .i64)], [.int .i64], true, fun ps => 0 ≤ (nth ps 1).I ∧ sumMs (nth ps 1).I (nth ps 0).L ≤ 1073741823, fun ps => [.int .i64 (sumMs (nth ps 1).I (nth ps 0).L)], fun ps => [.list (markMs (nth ps 1).I (nth ps 0).L)]⟩
def heldM1 (k : Int) (e : PV) : Bool := (nth e.A 0).I == k && (nth e.A 1).I == k + 1 && (nth e.A 2).I == k + 2 && (nth e.A 3).I == k + 3 && (nth e.A 4).I == k + 4 && (nth e.A 5).I == k + 5 && (nth e.A 6).I == k + 6 && (nth e.A 7).B == mod3 (k + 7) && heldGo heldR1 2 (k + 8) (nth e.A 8).L == k + msN e
def heldMs (k : Int) : List PV → Int
  | [] => k
  | e :: es => if heldM1 k e then heldMs (k + msN e) es else -1
theorem heldMs_mark : ∀ (es : List PV) (k : Int), heldMs k (markMs k es) = sumMs k es
  | [], k => rfl
  | e :: es, k => by
    rw [markMs, heldMs, if_pos, msN_mk, heldMs_mark es, sumMs]
    rw [heldM1, msN_mk]
    simp [mkM, msN, nth_zero, nth_succ, pv_A, pv_I, pv_L, pv_B, heldR_mark]
    omega
def c_heldMessageS : FSpec := ⟨[(.rd, .list (.agg [.int .i64, .int .i64, .int .i64, .int .i64, .int .i64, .int .i64, .int .i64, .bool, .list (.agg [.int .i64, .str])])), (.rd, .int .i64)], [.int .i64], true, fun ps => 0 ≤ (nth ps 1).I ∧ sumMs (nth ps 1).I (nth ps 0).L ≤ 1073741823, fun ps => [.int .i64 (heldMs (nth ps 1).I (nth ps 0).L)], fun _ => []⟩
end Go.Proofs.Ytkofjkjcbljkdaa
end

section
namespace Go.Proofs.Ytkofjkjcbljkdaa
variable [LaidG]
set_option maxRecDepth 100000
set_option linter.unusedSimpArgs false

/-- Entries of a term, none below the last. -/
def entB (t : Int) (p : Int) : List PV → Bool
  | [] => true
  | e :: es => leB (nth e.A 1).S.length 400 && inB (nth e.A 0).I 1 t && leB p (nth e.A 0).I && entB t (nth e.A 0).I es
def pvE (es : List PV) (i : Nat) : Int := if i = 0 then 0 else (nth (nth es (i - 1)).A 0).I
theorem pvE_succ (es : List PV) (i : Nat) : pvE es (i + 1) = (nth (nth es i).A 0).I := by simp [pvE]
theorem pvE_pos {es : List PV} {i : Nat} (h : 0 < i) : pvE es i = (nth (nth es (i - 1)).A 0).I := by rw [pvE, if_neg (by omega)]
def entsB (t : Int) (es : List PV) : Bool := entB t 0 es && leB es.length 60
def stB (t v : Int) (es : List PV) : Bool := inB t 0 1000 && inB v (-1) 4 && entsB t es

/-- Votes: places of nodes, each above the last. -/
def voB (n p : Int) : List PV → Bool
  | [] => true
  | e :: es => inB e.I 0 (n - 1) && decide (p < e.I) && voB n e.I es
def pvV (es : List PV) (i : Nat) : Int := if i = 0 then -1 else (nth es (i - 1)).I
theorem pvV_succ (es : List PV) (i : Nat) : pvV es (i + 1) = (nth es i).I := by simp [pvV]
theorem pvV_pos {es : List PV} {i : Nat} (h : 0 < i) : pvV es i = (nth es (i - 1)).I := by rw [pvV, if_neg (by omega)]

/-- What comes next, and what matches. -/
def nmB (l : Int) : List PV → List PV → Bool
  | x :: xs, m :: ms => inB x.I 1 (l + 1) && inB m.I 0 (x.I - 1) && nmB l xs ms
  | _, _ => true

/-- A node. -/
structure ND where
  id : Int
  nodes : Int
  term : Int
  vote : Int
  role : Int
  up : Bool
  log : List PV
  com : Int
  ela : Int
  wt : Int
  vs : List PV
  nx : List PV
  ms : List PV
def ND.pv (n : ND) : PV := .agg [.int .i64 n.id, .int .i64 n.nodes, .int .i64 n.term, .int .i64 n.vote, .int .i64 n.role, .bool n.up, .list n.log, .int .i64 n.com, .int .i64 n.ela, .int .i64 n.wt, .list n.vs, .list n.nx, .list n.ms]
def ndOf (v : List PV) : ND := ⟨(nth v 0).I, (nth v 1).I, (nth v 2).I, (nth v 3).I, (nth v 4).I, (nth v 5).B, (nth v 6).L, (nth v 7).I, (nth v 8).I, (nth v 9).I, (nth v 10).L, (nth v 11).L, (nth v 12).L⟩
def ND.no : ND := ⟨0, 0, 0, 0, 0, false, [], 0, 0, 0, [], [], []⟩
def ltB (a b : Int) : Bool := decide (a < b)
def ndB1 (n : ND) : Bool := inB n.nodes 1 5 && inB n.id 0 (n.nodes - 1) && stB n.term n.vote n.log && ltB n.vote n.nodes && inB n.role 0 2 && (n.up || n.role == 0) && inB n.com 0 n.log.length &&
  inB n.ela 0 1000 && inB n.wt 5 100 && (n.nx.length : Int) == n.nodes && (n.ms.length : Int) == n.nodes
def nodeB (n : ND) : Bool := ndB1 n && voB n.nodes (-1) n.vs && nmB n.log.length n.nx n.ms

def c_areEntries : FSpec := ⟨[(.rd, .list (.agg [.int .i64, .str])), (.rd, .int .i64)], [.bool], true, fun _ => True, fun ps => [.bool (entsB (nth ps 1).I (nth ps 0).L)], fun _ => []⟩
theorem k_areEntries : FnOk Try.prog 64 c_areEntries := by
  refine fn_mk [0, 1, 4, 5, 6, 7, 8, 9] [.tmp 4] (env_cons (cs := []) k_within (env_nil (tyTab_ok []))) mixed Try.func64 rfl (by decide) rfl (by decide) rfl ?_
  intro ps hT hpre W hW
  simp only [c_areEntries, TyA, Ty, Tys] at hT hpre
  obtain ⟨_, _, rfl, ⟨es, rfl, hes, tes⟩, _, _, rfl, ⟨t, rfl, ht⟩, rfl⟩ := hT
  refine hW.vc [(4, [], .take 0 <| .take 1 <| .take 2 <| .take 3 <| .take 4 <| .take 5 <| .take 6 <| .take 7 <| .alt 8 (.take 9 <| .take 10 <| .take 11 <| .take 12 <| .take 13 <| .take 14 <| .take 15 <| .take 16 <| .take 17 <| .take 18 <| .take 19 <| .take 20 <| .take 21 <| .take 22 <| .take 23 <| .take 24 <| .take 25 <| .done) .stop)] _ _ ?_
  simp [-List.getD_eq_getElem?_getD, c_areEntries, c_within]
  refine fun h1 => hW.loopS _ _ _ [.sl 9 .dp (.int .i64)] (fun ys => ∃ i : Nat, ys = [.int .i64 i] ∧ i ≤ es.length ∧ entB t 0 es = entB t (pvE es i) (es.drop i)) (fun ys => es.length - (nth ys 0).I.toNat) ?_ ?_
  · simp [-List.getD_eq_getElem?_getD, c_areEntries, c_within]
    exact ⟨0, rfl, by simp, by simp [pvE]⟩
  · rintro ys ⟨i, rfl, g1, g2⟩
    refine hW.vc [(4, [], .take 0 <| .take 1 <| .take 2 <| .take 3 <| .take 4 <| .take 5 <| .take 6 <| .take 7 <| .alt 8 (.take 9 <| .take 10 <| .take 11 <| .take 12 <| .take 13 <| .take 14 <| .take 15 <| .take 16 <| .take 17 <| .take 18 <| .take 19 <| .take 20 <| .take 21 <| .take 22 <| .take 23 <| .take 24 <| .take 25 <| .done) .stop)] _ _ ?_
    simp [-List.getD_eq_getElem?_getD, c_areEntries, c_within]
    have k2 : 0 < i → (IntKind.i64.wrap ((i : Int) - 1)).toNat = i - 1 := fun h => by rw [wrap64 (by omega)]; omega
    have k3 : 0 < i → IntKind.i64.wrap ((i : Int) - 1) = i - 1 := fun h => wrap64 (by omega)
    refine ⟨fun g3 => ⟨g3, fun _ _ _ => ⟨by decide +kernel, fun _ => ⟨fun g4 g5 g6 => ⟨⟨⟨g4, g5⟩, g6⟩, by rw [k3 g6]; omega⟩, fun g4 g5 g6 => ⟨⟨⟨g4, g5⟩, g6⟩, by rw [k2 g6]; omega⟩, fun _ => ⟨fun g4 g5 => ⟨⟨g4, g5⟩, fun g6 => ⟨⟨g4, g5⟩, g6⟩⟩, ?_⟩⟩⟩⟩, ?_⟩
    · rw [drop_nth g3, entB] at g2
      refine ⟨fun g4 => ?_, fun g4 g6 g5 => ?_⟩
      · rw [entsB, g2]
        rcases g4 with (g4 | g4) | ⟨g4, g5⟩
        · have : ¬ ((nth (nth es i).A 1).S.length : Int) ≤ 400 := by omega
          simp [this, leB]
        · simp [g4]
        · rw [k2 g4] at g5
          have : ¬ pvE es i ≤ (nth (nth es i).A 0).I := by rw [pvE_pos g4]; omega
          simp [this, leB]
      · rw [wrap64 (by omega)]
        have k5 : pvE es i ≤ (nth (nth es i).A 0).I := by
          by_cases h0 : 0 < i
          · have := g5 h0
            rw [k2 h0] at this
            rw [pvE_pos h0]; exact this
          · have : pvE es i = 0 := by rw [pvE, if_pos (by omega)]
            rw [this]
            simp [inB] at g6; omega
        refine ⟨⟨i + 1, by omega, by omega, ?_⟩, by omega⟩
        rw [g2, g6, pvE_succ]
        simp [k5, g4, leB]
    · intro g3 _
      rw [List.drop_eq_nil_of_le g3, entB] at g2
      rw [entsB, g2, Bool.true_and, leB]

def c_isState : FSpec := ⟨[(.rd, .agg [.int .i64, .int .i64, .list (.agg [.int .i64, .str])])], [.bool], true, fun _ => True, fun ps => [.bool (stB (nth (nth ps 0).A 0).I (nth (nth ps 0).A 1).I (nth (nth ps 0).A 2).L)], fun _ => []⟩
theorem k_isState : FnOk Try.prog 63 c_isState := by
  refine fn_mk [0, 1, 2] [.tmp 2] (env_cons (cs := []) k_areEntries (env_cons (cs := []) k_within (env_nil (tyTab_ok [])))) mixed Try.func63 rfl (by decide) rfl (by decide) rfl ?_
  intro ps hT hpre W hW
  simp only [c_isState, TyA, Ty, Tys] at hT hpre
  obtain ⟨_, _, rfl, ⟨_, rfl, _, _, rfl, ⟨t, rfl, ht⟩, _, _, rfl, ⟨v, rfl, hv⟩, _, _, rfl, ⟨es, rfl, hes, tes⟩, rfl⟩, rfl⟩ := hT
  refine hW.vc [] _ _ ?_
  simp [-List.getD_eq_getElem?_getD, c_isState, c_within, c_areEntries]
  exact ⟨fun h => by rcases h with h | h <;> simp [stB, h], fun h h' => by simp [stB, h, h']⟩

theorem nd_no {n0 n1 n2 n3 n4 n5 n6 n7 : Int} {u : Bool} {es vs xs ms : List PV}
    (h : ((((((((((inB n1 1 5 = false ∨ inB n0 0 (n1 - 1) = false) ∨ stB n2 n3 es = false) ∨ n1 ≤ n3) ∨ inB n4 0 2 = false) ∨ u = false ∧ ¬n4 = 0) ∨ inB n5 0 es.length = false) ∨ inB n6 0 1000 = false) ∨ inB n7 5 100 = false) ∨ ¬(xs.length : Int) = n1) ∨ ¬(ms.length : Int) = n1)) :
    nodeB ⟨n0, n1, n2, n3, n4, u, es, n5, n6, n7, vs, xs, ms⟩ = false := by
  have : ndB1 ⟨n0, n1, n2, n3, n4, u, es, n5, n6, n7, vs, xs, ms⟩ = false := by
    rcases h with (((((((((h | h) | h) | h) | h) | h) | h) | h) | h) | h) | h
    case inl.inl.inl.inl.inl.inl.inl.inr => simp [ndB1, ltB, Int.not_lt.2 h]
    all_goals simp [ndB1, h]
  simp [nodeB, this]
theorem nd_eq {n0 n1 n2 n3 n4 n5 n6 n7 : Int} {u : Bool} {es vs xs ms : List PV}
    (h1 : inB n1 1 5 = true) (h2 : inB n0 0 (n1 - 1) = true) (h3 : stB n2 n3 es = true) (h4 : n3 < n1) (h5 : inB n4 0 2 = true) (h6 : u = false → n4 = 0) (h7 : inB n5 0 es.length = true) (h8 : inB n6 0 1000 = true) (h9 : inB n7 5 100 = true) (h10 : (xs.length : Int) = n1) (h11 : (ms.length : Int) = n1) :
    nodeB ⟨n0, n1, n2, n3, n4, u, es, n5, n6, n7, vs, xs, ms⟩ = (voB n1 (-1) vs && nmB es.length xs ms) := by
  have h12 : (u || n4 == 0) = true := by cases u <;> simp [h6]
  have : ndB1 ⟨n0, n1, n2, n3, n4, u, es, n5, n6, n7, vs, xs, ms⟩ = true := by
    simp only [ndB1, ltB, h1, h2, h3, h5, h7, h8, h9, h10, h11, h12, Bool.true_and, decide_eq_true h4, beq_self_eq_true]
  rw [nodeB, this]
  simp

def c_isNode : FSpec := ⟨[(.rd, .agg [.int .i64, .int .i64, .int .i64, .int .i64, .int .i64, .bool, .list (.agg [.int .i64, .str]), .int .i64, .int .i64, .int .i64, .list (.int .i64), .list (.int .i64), .list (.int .i64)])], [.bool], true, fun _ => True, fun ps => [.bool (nodeB (ndOf (nth ps 0).A))], fun _ => []⟩
theorem k_isNode : FnOk Try.prog 29 c_isNode := by
  refine fn_mk [0, 1, 2, 3, 4, 5, 6, 7, 94, 95, 96, 123, 124, 125] [.tmp 2] (env_cons (cs := []) k_isState (env_cons (cs := []) k_within (env_nil (tyTab_ok [])))) mixed Try.func29 rfl (by decide) rfl (by decide) rfl ?_
  intro ps hT hpre W hW
  simp only [c_isNode, TyA, Ty, Tys] at hT hpre
  obtain ⟨_, _, rfl, ⟨_, rfl, _, _, rfl, ⟨n0, rfl, hn0⟩, _, _, rfl, ⟨n1, rfl, hn1⟩, _, _, rfl, ⟨n2, rfl, hn2⟩, _, _, rfl, ⟨n3, rfl, hn3⟩, _, _, rfl, ⟨n4, rfl, hn4⟩, _, _, rfl, ⟨u, rfl⟩, _, _, rfl, ⟨es, rfl, hes, tes⟩, _, _, rfl, ⟨n5, rfl, hn5⟩, _, _, rfl, ⟨n6, rfl, hn6⟩, _, _, rfl, ⟨n7, rfl, hn7⟩, _, _, rfl, ⟨vs, rfl, hvs, tvs⟩, _, _, rfl, ⟨xs, rfl, hxs, txs⟩, _, _, rfl, ⟨ms, rfl, hms, tms⟩, rfl⟩, rfl⟩ := hT
  refine hW.vc [] _ _ ?_
  simp [-List.getD_eq_getElem?_getD, c_isNode, c_within, c_isState, ndOf]
  refine fun h0 => ⟨fun a b c d e => ⟨⟨⟨⟨⟨a, b⟩, c⟩, d⟩, e⟩, fun f => ⟨⟨⟨⟨⟨a, b⟩, c⟩, d⟩, e⟩, f⟩⟩, fun _ _ => ⟨fun h => ?_, ?_⟩⟩
  · by_cases hb : inB n1 1 5 = true
    · rw [wrap64 (n := n1 - 1) (by simp [inB] at hb; omega)] at h
      exact nd_no h
    · exact nd_no (by simp [hb])
  intro h1 h2 h3 h4 h5 h6 h7 h8 h9 h10 h11 h12
  have k1 : IntKind.i64.wrap (n1 - 1) = n1 - 1 := wrap64 (by simp [inB] at h1; omega)
  rw [k1] at h2
  have hq := nd_eq (vs := vs) h1 h2 h3 h4 h5 h6 h7 h8 h9 h10 h11
  refine hW.loopS _ _ _ [.sl 96 .dp (.int .i64)] (fun ys => ∃ i : Nat, ys = [.int .i64 i] ∧ i ≤ vs.length ∧ voB n1 (-1) vs = voB n1 (pvV vs i) (vs.drop i)) (fun ys => vs.length - (nth ys 0).I.toNat) ?_ ?_
  · simp [-List.getD_eq_getElem?_getD, c_isNode, c_within, c_isState]
    exact ⟨0, rfl, by simp, by simp [pvV]⟩
  · rintro ys ⟨i, rfl, g1, g2⟩
    refine hW.vc [] _ _ ?_
    simp [-List.getD_eq_getElem?_getD, c_isNode, c_within, c_isState, ndOf]
    rw [k1]
    have k2 : 0 < i → (IntKind.i64.wrap ((i : Int) - 1)).toNat = i - 1 := fun h => by rw [wrap64 (by omega)]; omega
    have k3 : 0 < i → IntKind.i64.wrap ((i : Int) - 1) = i - 1 := fun h => wrap64 (by omega)
    refine ⟨fun g3 => ⟨g3, fun _ => ⟨fun g4 g5 => ⟨⟨g4, g5⟩, by rw [k3 g5]; omega⟩, fun g4 g5 => ⟨⟨g4, g5⟩, by rw [k2 g5]; omega⟩, fun _ => ⟨fun g4 => ⟨g4, fun g5 => ⟨g4, g5⟩⟩, ?_⟩⟩⟩, ?_⟩
    · rw [drop_nth g3, voB] at g2
      refine ⟨fun g4 => ?_, fun g4 g5 => ?_⟩
      · rw [hq, g2]
        rcases g4 with g4 | ⟨g4, g5⟩
        · simp [g4]
        · rw [k2 g4] at g5
          have : ¬ pvV vs i < (nth vs i).I := by rw [pvV_pos g4]; omega
          simp [this]
      · rw [wrap64 (by omega)]
        have k5 : pvV vs i < (nth vs i).I := by
          by_cases h0 : 0 < i
          · have := g5 h0
            rw [k2 h0] at this
            rw [pvV_pos h0]; exact this
          · have : pvV vs i = -1 := by rw [pvV, if_pos (by omega)]
            rw [this]
            simp [inB] at g4; omega
        refine ⟨⟨i + 1, by omega, by omega, ?_⟩, by omega⟩
        rw [g2, g4, pvV_succ]
        simp [k5]
    · intro g3 g4
      rw [List.drop_eq_nil_of_le g3, voB] at g2
      rw [g2, Bool.true_and] at hq
      refine hW.loopS _ _ _ [.sl 125 .dp (.int .i64)] (fun ys => ∃ j : Nat, ys = [.int .i64 j] ∧ j ≤ xs.length ∧ nmB es.length xs ms = nmB es.length (xs.drop j) (ms.drop j)) (fun ys => xs.length - (nth ys 0).I.toNat) ?_ ?_
      · simp [-List.getD_eq_getElem?_getD, c_isNode, c_within, c_isState]
        exact ⟨0, rfl, by simp, by simp⟩
      · rintro ys ⟨j, rfl, q1, q2⟩
        refine hW.vc [] _ _ ?_
        simp [-List.getD_eq_getElem?_getD, c_isNode, c_within, c_isState, ndOf]
        have k6 : IntKind.i64.wrap ((es.length : Int) + 1) = es.length + 1 := wrap64 (by rw [LIM] at hes; omega)
        have k7 : inB (nth xs j).I 1 (es.length + 1) = true → IntKind.i64.wrap ((nth xs j).I - 1) = (nth xs j).I - 1 := fun h => wrap64 (by rw [LIM] at hes; simp [inB] at h; omega)
        rw [k6]
        refine ⟨fun q3 => ⟨q3, fun _ => ⟨fun q4 => ⟨q4, by omega⟩, fun _ => ⟨fun q4 => ?_, fun q4 q5 => ?_⟩⟩⟩, fun q3 => ?_⟩
        · rw [drop_nth q3, drop_nth (by omega : j < ms.length), nmB] at q2
          rw [hq, q2]
          by_cases q5 : inB (nth xs j).I 1 (es.length + 1) = true
          · rw [k7 q5] at q4
            rcases q4 with q4 | q4 <;> simp [q4]
          · simp [q5]
        · rw [drop_nth q3, drop_nth (by omega : j < ms.length), nmB] at q2
          rw [k7 q4] at q5
          rw [wrap64 (by omega)]
          exact ⟨⟨j + 1, by omega, by omega, by rw [q2, q4, q5]; simp⟩, by omega⟩
        · rw [hq, q2, List.drop_eq_nil_of_le q3]; simp [nmB]

def c_CloneE : FSpec := ⟨[(.rd, .list (.agg [.int .i64, .str]))], [.list (.agg [.int .i64, .str])], true, fun ps => (nth ps 0).L.length ≤ 1048576, fun ps => [.list (nth ps 0).L], fun _ => []⟩
theorem k_CloneE : FnOk Try.prog 65 c_CloneE := by
  refine fn_mk [0, 2] [.tmp 2] (env_nil (tyTab_ok [])) mixed Try.func65 rfl (by decide) rfl (by decide) rfl ?_
  intro ps hT hpre W hW
  simp only [c_CloneE, TyA, Ty, Tys] at hT hpre
  obtain ⟨_, _, rfl, ⟨es, rfl, hes, tes⟩, rfl⟩ := hT
  simp only [nth_zero, pv_L] at hpre
  refine hW.vc [] _ _ ?_
  simp [-List.getD_eq_getElem?_getD, c_CloneE]
  omega
def c_CloneI : FSpec := ⟨[(.rd, .list (.int .i64))], [.list (.int .i64)], true, fun ps => (nth ps 0).L.length ≤ 1048576, fun ps => [.list (nth ps 0).L], fun _ => []⟩
theorem k_CloneI : FnOk Try.prog 66 c_CloneI := by
  refine fn_mk [0, 2] [.tmp 2] (env_nil (tyTab_ok [])) mixed Try.func66 rfl (by decide) rfl (by decide) rfl ?_
  intro ps hT hpre W hW
  simp only [c_CloneI, TyA, Ty, Tys] at hT hpre
  obtain ⟨_, _, rfl, ⟨es, rfl, hes, tes⟩, rfl⟩ := hT
  simp only [nth_zero, pv_L] at hpre
  refine hW.vc [] _ _ ?_
  simp [-List.getD_eq_getElem?_getD, c_CloneI]
  omega
def c_cloneNode : FSpec := c_toNode
theorem k_cloneNode : FnOk Try.prog 31 c_cloneNode := by
  refine fn_mk [0, 1, 2] [.cell 2 26] (env_cons (cs := []) k_CloneI (env_cons (cs := []) k_CloneE (env_nil (tyTab_ok [])))) mixed Try.func31 rfl (by decide) rfl (by decide) rfl ?_
  intro ps hT hpre W hW
  simp only [c_cloneNode, TyA, Ty, Tys] at hT hpre
  simp only [c_toNode, TyA, Ty, Tys] at hT hpre
  obtain ⟨_, _, rfl, ⟨_, rfl, _, _, rfl, ⟨n0, rfl, hn0⟩, _, _, rfl, ⟨n1, rfl, hn1⟩, _, _, rfl, ⟨n2, rfl, hn2⟩, _, _, rfl, ⟨n3, rfl, hn3⟩, _, _, rfl, ⟨n4, rfl, hn4⟩, _, _, rfl, ⟨u, rfl⟩, _, _, rfl, ⟨es, rfl, hes, tes⟩, _, _, rfl, ⟨n5, rfl, hn5⟩, _, _, rfl, ⟨n6, rfl, hn6⟩, _, _, rfl, ⟨n7, rfl, hn7⟩, _, _, rfl, ⟨vs, rfl, hvs, tvs⟩, _, _, rfl, ⟨xs, rfl, hxs, txs⟩, _, _, rfl, ⟨ms, rfl, hms, tms⟩, rfl⟩, rfl⟩ := hT
  simp only [nth_zero, nth_succ, pv_A, pv_L] at hpre
  refine hW.vc [(1, [13, 15, 17, 19], .take 0 <| .take 1 <| .take 3 <| .take 4 <| .take 6 <| .take 7 <| .take 9 <| .take 10 <| .alt 2 (.take 12 <| .alt 5 (.alt 8 (.alt 11 (.alt 13 (.take 14 <| .alt 15 (.take 16 <| .alt 17 (.take 18 <| .alt 19 (.done) .stop) .stop) .stop) .stop) .stop) .stop) .stop) .stop)] _ _ ?_
  simp [-List.getD_eq_getElem?_getD, c_cloneNode, c_CloneE, c_CloneI, c_toNode]
  exact ⟨by decide +kernel, hpre⟩

/-- The term of a place. -/
def tmAt (es : List PV) (p : Int) : Int := if p = 0 then 0 else (nth (nth es (p - 1).toNat).A 0).I
def c_termAt : FSpec := ⟨[(.rd, .box [.int .i64, .int .i64, .int .i64, .int .i64, .int .i64, .bool, .list (.agg [.int .i64, .str]), .int .i64, .int .i64, .int .i64, .list (.int .i64), .list (.int .i64), .list (.int .i64)]), (.rd, .int .i64)], [.int .i64], true, fun ps => 0 ≤ (nth ps 1).I ∧ (nth ps 1).I ≤ (nth (nth ps 0).A 6).L.length, fun ps => [.int .i64 (tmAt (nth (nth ps 0).A 6).L (nth ps 1).I)], fun _ => []⟩
theorem k_termAt : FnOk Try.prog 80 c_termAt := by
  refine fn_mk [0, 1, 4] [.tmp 4] (env_nil (tyTab_ok [])) mixed Try.func80 rfl (by decide) rfl (by decide) rfl ?_
  intro ps hT hpre W hW
  simp only [c_termAt, TyA, Ty, Tys] at hT hpre
  obtain ⟨_, _, rfl, ⟨_, rfl, _, _, rfl, ⟨n0, rfl, hn0⟩, _, _, rfl, ⟨n1, rfl, hn1⟩, _, _, rfl, ⟨n2, rfl, hn2⟩, _, _, rfl, ⟨n3, rfl, hn3⟩, _, _, rfl, ⟨n4, rfl, hn4⟩, _, _, rfl, ⟨u, rfl⟩, _, _, rfl, ⟨es, rfl, hes, tes⟩, _, _, rfl, ⟨n5, rfl, hn5⟩, _, _, rfl, ⟨n6, rfl, hn6⟩, _, _, rfl, ⟨n7, rfl, hn7⟩, _, _, rfl, ⟨vs, rfl, hvs, tvs⟩, _, _, rfl, ⟨xs, rfl, hxs, txs⟩, _, _, rfl, ⟨ms, rfl, hms, tms⟩, rfl⟩, _, _, rfl, ⟨p, rfl, hp⟩, rfl⟩ := hT
  simp only [nth_zero, nth_succ, pv_A, pv_L, pv_I] at hpre
  refine hW.vc [] _ _ ?_
  simp [-List.getD_eq_getElem?_getD, c_termAt]
  refine ⟨fun h => by rw [tmAt, if_pos h], fun h => ?_⟩
  rw [LIM] at hes
  rw [wrap64 (by omega)]
  exact ⟨⟨by omega, by omega⟩, by omega, fun _ => by rw [tmAt, if_neg h]⟩

def c_message : FSpec := ⟨[(.rd, .box [.int .i64, .int .i64, .int .i64, .int .i64, .int .i64, .bool, .list (.agg [.int .i64, .str]), .int .i64, .int .i64, .int .i64, .list (.int .i64), .list (.int .i64), .list (.int .i64)]), (.rd, .int .i64), (.rd, .int .i64)], [.agg [.int .i64, .int .i64, .int .i64, .int .i64, .int .i64, .int .i64, .int .i64, .bool, .list (.agg [.int .i64, .str])]], true, fun _ => True,
  fun ps => [.agg [.int .i64 (nth ps 1).I, .int .i64 (nth (nth ps 0).A 0).I, .int .i64 (nth ps 2).I, .int .i64 (nth (nth ps 0).A 2).I, .int .i64 0, .int .i64 0, .int .i64 0, .bool false, .list []]], fun _ => []⟩
theorem k_message : FnOk Try.prog 68 c_message := by
  refine fn_mk [0, 1, 2, 6] [.cell 6 30] (env_nil (tyTab_ok [])) mixed Try.func68 rfl (by decide) rfl (by decide) rfl ?_
  intro ps hT hpre W hW
  simp only [c_message, TyA, Ty, Tys] at hT hpre
  obtain ⟨_, _, rfl, ⟨_, rfl, _, _, rfl, ⟨n0, rfl, hn0⟩, _, _, rfl, ⟨n1, rfl, hn1⟩, _, _, rfl, ⟨n2, rfl, hn2⟩, _, _, rfl, ⟨n3, rfl, hn3⟩, _, _, rfl, ⟨n4, rfl, hn4⟩, _, _, rfl, ⟨u, rfl⟩, _, _, rfl, ⟨es, rfl, hes, tes⟩, _, _, rfl, ⟨n5, rfl, hn5⟩, _, _, rfl, ⟨n6, rfl, hn6⟩, _, _, rfl, ⟨n7, rfl, hn7⟩, _, _, rfl, ⟨vs, rfl, hvs, tvs⟩, _, _, rfl, ⟨xs, rfl, hxs, txs⟩, _, _, rfl, ⟨ms, rfl, hms, tms⟩, rfl⟩, _, _, rfl, ⟨k, rfl, hk⟩, _, _, rfl, ⟨to, rfl, hto⟩, rfl⟩ := hT
  refine hW.vc [(1, [11], .take 0 <| .take 1 <| .take 2 <| .take 3 <| .take 4 <| .take 5 <| .take 6 <| .take 7 <| .take 8 <| .take 9 <| .take 10 <| .alt 11 (.done) .stop)] _ _ ?_
  simp [-List.getD_eq_getElem?_getD, c_message]
  decide +kernel

/-- The message by which a node replicates to another. -/
def repM (n : ND) (to : Int) : PV := .agg [.int .i64 3, .int .i64 n.id, .int .i64 to, .int .i64 n.term, .int .i64 ((nth n.nx to.toNat).I - 1), .int .i64 (tmAt n.log ((nth n.nx to.toNat).I - 1)), .int .i64 n.com, .bool false, .list (n.log.drop ((nth n.nx to.toNat).I.toNat - 1))]
def repOk (n : ND) (to : Int) : Prop := 0 ≤ to ∧ to < n.nx.length ∧ 1 ≤ (nth n.nx to.toNat).I ∧ (nth n.nx to.toNat).I ≤ n.log.length + 1 ∧ n.log.length ≤ 1024
def c_replicate : FSpec := ⟨[(.rd, .box [.int .i64, .int .i64, .int .i64, .int .i64, .int .i64, .bool, .list (.agg [.int .i64, .str]), .int .i64, .int .i64, .int .i64, .list (.int .i64), .list (.int .i64), .list (.int .i64)]), (.rd, .int .i64)], [.agg [.int .i64, .int .i64, .int .i64, .int .i64, .int .i64, .int .i64, .int .i64, .bool, .list (.agg [.int .i64, .str])]], true, fun ps => repOk (ndOf (nth ps 0).A) (nth ps 1).I, fun ps => [repM (ndOf (nth ps 0).A) (nth ps 1).I], fun _ => []⟩
theorem k_replicate : FnOk Try.prog 74 c_replicate := by
  refine fn_mk [0, 1, 4, 5] [.cell 4 30] (env_cons (cs := []) k_CloneE (env_cons (cs := []) k_termAt (env_cons (cs := []) k_message (env_nil (tyTab_ok []))))) mixed Try.func74 rfl (by decide) rfl (by decide) rfl ?_
  intro ps hT hpre W hW
  simp only [c_replicate, TyA, Ty, Tys] at hT hpre
  obtain ⟨_, _, rfl, ⟨_, rfl, _, _, rfl, ⟨n0, rfl, hn0⟩, _, _, rfl, ⟨n1, rfl, hn1⟩, _, _, rfl, ⟨n2, rfl, hn2⟩, _, _, rfl, ⟨n3, rfl, hn3⟩, _, _, rfl, ⟨n4, rfl, hn4⟩, _, _, rfl, ⟨u, rfl⟩, _, _, rfl, ⟨es, rfl, hes, tes⟩, _, _, rfl, ⟨n5, rfl, hn5⟩, _, _, rfl, ⟨n6, rfl, hn6⟩, _, _, rfl, ⟨n7, rfl, hn7⟩, _, _, rfl, ⟨vs, rfl, hvs, tvs⟩, _, _, rfl, ⟨xs, rfl, hxs, txs⟩, _, _, rfl, ⟨ms, rfl, hms, tms⟩, rfl⟩, _, _, rfl, ⟨to, rfl, hto⟩, rfl⟩ := hT
  simp only [nth_zero, nth_succ, pv_A, pv_L, pv_I, ndOf, repOk] at hpre
  refine hW.vc [(5, [9], .take 0 <| .take 1 <| .take 2 <| .take 3 <| .take 4 <| .take 5 <| .take 6 <| .alt 7 (.take 8 <| .alt 9 (.done) .stop) .stop)] _ _ ?_
  simp [-List.getD_eq_getElem?_getD, c_replicate, c_message, c_termAt, c_CloneE, ndOf, repM]
  obtain ⟨p1, p2, p3, p4, p5⟩ := hpre
  rw [wrap64 (n := (nth xs to.toNat).I - 1) (by omega)]
  refine ⟨⟨p1, p2⟩, by omega, fun _ => ⟨⟨by omega, by omega⟩, by decide +kernel, ⟨by omega, by omega⟩, fun _ => ⟨by omega, rfl, rfl, ?_⟩⟩⟩
  have e : ((nth xs to.toNat).I - 1).toNat = (nth xs to.toNat).I.toNat - 1 := by omega
  rw [e, List.take_of_length_le (by simp)]

/-- The messages to the first nodes. -/
def repV (n : ND) (to : Int) : PV := repM n to
def repAll (n : ND) : Nat → List PV
  | 0 => []
  | k + 1 => repAll n k ++ (if (k : Int) = n.id then [] else [repV n k])
theorem repAll_len (n : ND) : ∀ k, (repAll n k).length ≤ k
  | 0 => Nat.le_refl _
  | k + 1 => by
    have := repAll_len n k
    rw [repAll, List.length_append]
    split <;> simp <;> omega
def repsOk (n : ND) : Prop := 1 ≤ n.nodes ∧ n.nodes ≤ 5 ∧ (∀ i : Nat, (i : Int) < n.nodes → repOk n i)
def c_replicateAll : FSpec := ⟨[(.rd, .box [.int .i64, .int .i64, .int .i64, .int .i64, .int .i64, .bool, .list (.agg [.int .i64, .str]), .int .i64, .int .i64, .int .i64, .list (.int .i64), .list (.int .i64), .list (.int .i64)])], [.list (.agg [.int .i64, .int .i64, .int .i64, .int .i64, .int .i64, .int .i64, .int .i64, .bool, .list (.agg [.int .i64, .str])])], true, fun ps => repsOk (ndOf (nth ps 0).A), fun ps => [.list (repAll (ndOf (nth ps 0).A) (nth (nth ps 0).A 1).I.toNat)], fun _ => []⟩
theorem k_replicateAll : FnOk Try.prog 79 c_replicateAll := by
  refine fn_mk [0, 2, 3, 4, 8, 9] [.tmp 2] (env_cons (cs := []) k_replicate (env_nil (tyTab_ok []))) mixed Try.func79 rfl (by decide) rfl (by decide) rfl ?_
  intro ps hT hpre W hW
  simp only [c_replicateAll, TyA, Ty, Tys] at hT hpre
  obtain ⟨_, _, rfl, ⟨_, rfl, _, _, rfl, ⟨n0, rfl, hn0⟩, _, _, rfl, ⟨n1, rfl, hn1⟩, _, _, rfl, ⟨n2, rfl, hn2⟩, _, _, rfl, ⟨n3, rfl, hn3⟩, _, _, rfl, ⟨n4, rfl, hn4⟩, _, _, rfl, ⟨u, rfl⟩, _, _, rfl, ⟨es, rfl, hes, tes⟩, _, _, rfl, ⟨n5, rfl, hn5⟩, _, _, rfl, ⟨n6, rfl, hn6⟩, _, _, rfl, ⟨n7, rfl, hn7⟩, _, _, rfl, ⟨vs, rfl, hvs, tvs⟩, _, _, rfl, ⟨xs, rfl, hxs, txs⟩, _, _, rfl, ⟨ms, rfl, hms, tms⟩, rfl⟩, rfl⟩ := hT
  simp only [nth_zero, nth_succ, pv_A, pv_L, pv_I, ndOf, repsOk] at hpre
  refine hW.vc [] _ _ ?_
  simp [-List.getD_eq_getElem?_getD, c_replicateAll, c_replicate, ndOf, repM]
  obtain ⟨p1, p2, p3⟩ := hpre
  refine hW.loopS _ _ _ [.sl 9 .dp (.int .i64), .sl 3 .dp (.list (.agg [.int .i64, .int .i64, .int .i64, .int .i64, .int .i64, .int .i64, .int .i64, .bool, .list (.agg [.int .i64, .str])]))] (fun ys => ∃ i : Nat, ys = [.int .i64 i, .list (repAll ⟨n0, n1, n2, n3, n4, u, es, n5, n6, n7, vs, xs, ms⟩ i)] ∧ (i : Int) ≤ n1) (fun ys => n1.toNat - (nth ys 0).I.toNat) ?_ ?_
  · simp [-List.getD_eq_getElem?_getD, c_replicateAll, c_replicate]
    exact ⟨0, ⟨rfl, rfl⟩, by omega⟩
  · rintro ys ⟨i, rfl, q1⟩
    refine hW.vc [] _ _ ?_
    simp [-List.getD_eq_getElem?_getD, c_replicateAll, c_replicate, ndOf, repM]
    have hl := repAll_len ⟨n0, n1, n2, n3, n4, u, es, n5, n6, n7, vs, xs, ms⟩ i
    rw [wrap64 (n := (i : Int) + 1) (by omega)]
    refine ⟨fun q2 => ⟨fun q3 => ⟨p3 i q2, by omega, fun _ => ⟨⟨i + 1, ⟨rfl, ?_⟩, by omega⟩, by omega⟩⟩, fun q3 => ⟨⟨i + 1, ⟨rfl, ?_⟩, by omega⟩, by omega⟩⟩, fun q2 => ?_⟩
    · rw [repAll, if_neg q3]; rfl
    · rw [repAll, if_pos q3, List.append_nil]
    · have : i = n1.toNat := by omega
      rw [this]

end Go.Proofs.Ytkofjkjcbljkdaa
end

section
namespace Go.Proofs.Ytkofjkjcbljkdaa
variable [LaidG]
set_option maxRecDepth 100000
set_option linter.unusedSimpArgs false

def c_Mul64 : FSpec := ⟨[(.rd, .int .u64), (.rd, .int .u64)], [.int .u64, .int .u64], true, fun ps => (nth ps 0).I = 1 ∧ 0 ≤ (nth ps 1).I ∧ (nth ps 1).I ≤ 5, fun ps => [.int .u64 0, .int .u64 (nth ps 1).I], fun _ => []⟩
theorem k_Mul64 : FnOk Try.prog 171 c_Mul64 := by
  refine fn_mk [0, 1, 4, 5, 6, 7, 8, 9, 10, 11, 12, 13] [.tmp 4, .tmp 5] (env_nil (tyTab_ok [])) mixed Try.func171 rfl (by decide) rfl (by decide) rfl ?_
  intro ps hT hpre W hW
  simp only [c_Mul64, TyA, Ty, Tys] at hT hpre
  obtain ⟨_, _, rfl, ⟨x, rfl, hx⟩, _, _, rfl, ⟨y, rfl, hy⟩, rfl⟩ := hT
  simp only [nth_zero, nth_succ, pv_I] at hpre
  obtain ⟨rfl, h1, h2⟩ := hpre
  refine hW.vc [] _ _ ?_
  simp [-List.getD_eq_getElem?_getD, c_Mul64]
  obtain rfl | rfl | rfl | rfl | rfl | rfl : y = 0 ∨ y = 1 ∨ y = 2 ∨ y = 3 ∨ y = 4 ∨ y = 5 := by omega
  all_goals decide +kernel
def c_Mul : FSpec := c_Mul64
theorem k_Mul : FnOk Try.prog 152 c_Mul := by
  refine fn_mk [0, 1, 4, 5, 6, 7, 8, 9] [.tmp 4, .tmp 5] (env_cons (cs := []) k_Mul64 (env_nil (tyTab_ok []))) mixed Try.func152 rfl (by decide) rfl (by decide) rfl ?_
  intro ps hT hpre W hW
  simp only [c_Mul, TyA, Ty, Tys] at hT hpre
  simp only [c_Mul64, TyA, Ty, Tys] at hT hpre
  obtain ⟨_, _, rfl, ⟨x, rfl, hx⟩, _, _, rfl, ⟨y, rfl, hy⟩, rfl⟩ := hT
  simp only [nth_zero, nth_succ, pv_I] at hpre
  refine hW.vc [] _ _ ?_
  simp [-List.getD_eq_getElem?_getD, c_Mul, c_Mul64]
  exact hpre

theorem rep_step {x z : PV} {m k q : Nat} : (List.replicate k x ++ List.replicate (m - k) z).drop (k + q) = List.replicate (m - (k + q)) z := by
  rw [List.drop_append, List.drop_replicate, List.drop_replicate, List.length_replicate]
  have e1 : k - (k + q) = 0 := by omega
  have e3 : m - k - (k + q - k) = m - (k + q) := by omega
  rw [e1, e3, List.replicate_zero, List.nil_append]
def c_Repeat : FSpec := ⟨[(.rd, .list (.int .i64)), (.rd, .int .i64)], [.list (.int .i64)], true, fun ps => (nth ps 0).L.length = 1 ∧ 1 ≤ (nth ps 1).I ∧ (nth ps 1).I ≤ 5, fun ps => [.list (List.replicate (nth ps 1).I.toNat (nth (nth ps 0).L 0))], fun _ => []⟩
theorem k_Repeat : FnOk Try.prog 134 c_Repeat := by
  refine fn_mk [0, 1, 4, 5, 6, 7, 8] [.tmp 4] (env_cons (cs := []) k_Mul (env_nil (tyTab_ok []))) mixed Try.func134 rfl (by decide) rfl (by decide) rfl ?_
  intro ps hT hpre W hW
  simp only [c_Repeat, TyA, Ty, Tys] at hT hpre
  obtain ⟨_, _, rfl, ⟨es, rfl, hes, tes⟩, _, _, rfl, ⟨c, rfl, hc⟩, rfl⟩ := hT
  simp only [nth_zero, nth_succ, pv_I, pv_L] at hpre
  obtain ⟨h1, h2, h3⟩ := hpre
  refine hW.vc [(9, [7], .take 0 <| .take 1 <| .take 2 <| .take 3 <| .take 4 <| .take 5 <| .take 6 <| .alt 7 (.take 8 <| .alt 9 (.done) .stop) .stop)] _ _ ?_
  simp [-List.getD_eq_getElem?_getD, c_Repeat, c_Mul, c_Mul64, c_Mul64]
  obtain ⟨x, rfl⟩ := List.length_eq_one_iff.1 h1
  have e1 : IntKind.u64.wrap c = c := wrapU64 (by omega)
  have e2 : IntKind.i64.wrap c = c := wrap64 (by omega)
  rw [e1, e2]
  refine ⟨fun h => absurd h (by omega), fun _ _ => ⟨⟨by simp [IntKind.wrap, IntKind.signed, IntKind.bits], by omega, by omega⟩, fun h => absurd h (by omega), fun _ => ⟨⟨by omega, by omega, by omega⟩, ?_⟩⟩⟩
  obtain ⟨m, rfl⟩ : ∃ m : Nat, c = m := ⟨c.toNat, by omega⟩
  have e3 : min 1 m = 1 := by omega
  have e4 : List.take m [x] = [x] := List.take_of_length_le (by simp; omega)
  simp only [Int.toNat_natCast, List.length_singleton, e3, e4]
  refine hW.loopS _ _ _ [.sl 7 .dp (.list (.int .i64)), .sl 8 .dp (.int .i64)] (fun ys => ∃ k : Nat, ys = [.list (List.replicate k x ++ List.replicate (m - k) (.int .i64 0)), .int .i64 k] ∧ 1 ≤ k ∧ k ≤ m) (fun ys => m - (nth ys 1).I.toNat) ?_ ?_
  · simp [-List.getD_eq_getElem?_getD, c_Repeat, c_Mul, c_Mul64]
    exact ⟨1, ⟨rfl, rfl⟩, by omega, by omega⟩
  · rintro ys ⟨k, rfl, g1, g2⟩
    refine hW.vc [(9, [7], .take 0 <| .take 1 <| .take 2 <| .take 3 <| .take 4 <| .take 5 <| .take 6 <| .alt 7 (.take 8 <| .alt 9 (.done) .stop) .stop)] _ _ ?_
    simp [-List.getD_eq_getElem?_getD, c_Repeat, c_Mul, c_Mul64, c_Mul64]
    have e5 : ((k : Int) + ((m - k : Nat) : Int)).toNat - k = m - k := by omega
    simp only [e5, Nat.min_self, Nat.min_comm (m - k) k, rep_step]
    have e6 : 1 ≤ m - k → 1 ≤ min k (m - k) := fun h => by omega
    have e8 : min (m - k) (min k (m - k)) = min k (m - k) := by omega
    have e7 : min k (m - k) ≤ m - k := by omega
    rw [wrap64 (by omega)]
    refine fun _ => ⟨fun h => ⟨by decide +kernel, by omega, fun _ => ⟨by omega, fun _ => ⟨⟨k + min k (m - k), ⟨by rw [e8], by omega⟩, by omega, by omega⟩, by omega⟩⟩⟩, fun h => ?_⟩
    have : k = m := by omega
    subst this
    simp

def c_reset : FSpec := ⟨[(.bx, .box [.int .i64, .int .i64, .int .i64, .int .i64, .int .i64, .bool, .list (.agg [.int .i64, .str]), .int .i64, .int .i64, .int .i64, .list (.int .i64), .list (.int .i64), .list (.int .i64)]), (.rd, .int .i64)], [], true, fun ps => 1 ≤ (nth (nth ps 0).A 1).I ∧ (nth (nth ps 0).A 1).I ≤ 5, fun _ => [],
  fun ps => [.agg [nth (nth ps 0).A 0, nth (nth ps 0).A 1, nth (nth ps 0).A 2, nth (nth ps 0).A 3, nth (nth ps 0).A 4, nth (nth ps 0).A 5, nth (nth ps 0).A 6, nth (nth ps 0).A 7, nth (nth ps 0).A 8, nth (nth ps 0).A 9, nth (nth ps 0).A 10,
    .list (List.replicate (nth (nth ps 0).A 1).I.toNat (.int .i64 (nth ps 1).I)), .list (List.replicate (nth (nth ps 0).A 1).I.toNat (.int .i64 0))]]⟩
theorem k_reset : FnOk Try.prog 108 c_reset := by
  refine fn_mk [0, 1] [] (env_cons (cs := []) k_Repeat (env_nil (tyTab_ok []))) mixed Try.func108 rfl (by decide) rfl (by decide) rfl ?_
  intro ps hT hpre W hW
  simp only [c_reset, TyA, Ty, Tys] at hT hpre
  obtain ⟨_, _, rfl, ⟨_, rfl, _, _, rfl, ⟨n0, rfl, hn0⟩, _, _, rfl, ⟨n1, rfl, hn1⟩, _, _, rfl, ⟨n2, rfl, hn2⟩, _, _, rfl, ⟨n3, rfl, hn3⟩, _, _, rfl, ⟨n4, rfl, hn4⟩, _, _, rfl, ⟨u, rfl⟩, _, _, rfl, ⟨es, rfl, hes, tes⟩, _, _, rfl, ⟨n5, rfl, hn5⟩, _, _, rfl, ⟨n6, rfl, hn6⟩, _, _, rfl, ⟨n7, rfl, hn7⟩, _, _, rfl, ⟨vs, rfl, hvs, tvs⟩, _, _, rfl, ⟨xs, rfl, hxs, txs⟩, _, _, rfl, ⟨ms, rfl, hms, tms⟩, rfl⟩, _, _, rfl, ⟨x, rfl, hx⟩, rfl⟩ := hT
  simp only [nth_zero, nth_succ, pv_I, pv_L, pv_A] at hpre
  refine hW.vc [(0, [16, 19], .take 0 <| .take 1 <| .take 2 <| .take 4 <| .take 5 <| .take 6 <| .take 7 <| .take 9 <| .take 10 <| .take 11 <| .take 12 <| .alt 3 (.alt 8 (.take 14 <| .take 15 <| .alt 13 (.alt 16 (.take 17 <| .take 18 <| .alt 19 (.done) .stop) .stop) (.alt 16 (.alt 13 (.take 17 <| .take 18 <| .alt 19 (.done) .stop) .stop) .stop)) (.alt 13 (.alt 8 (.take 14 <| .take 15 <| .alt 16 (.take 17 <| .take 18 <| .alt 19 (.done) .stop) .stop) .stop) .stop)) (.alt 13 (.alt 3 (.alt 8 (.take 14 <| .take 15 <| .alt 16 (.take 17 <| .take 18 <| .alt 19 (.done) .stop) .stop) .stop) .stop) .stop))] _ _ ?_
  simp [-List.getD_eq_getElem?_getD, c_reset, c_Repeat]
  exact ⟨by decide +kernel, ⟨hpre, by omega, by omega, by omega⟩, ⟨by omega, by omega, by omega⟩, hpre⟩

/-- How many have a place, the node itself counted. -/
def cntG (id p : Int) (ms : List PV) : Nat → Int
  | 0 => 1
  | i + 1 => if (i : Int) ≠ id ∧ p ≤ (nth ms i).I then cntG id p ms i + 1 else cntG id p ms i
theorem cntG_le (id p : Int) (ms : List PV) : ∀ i, 1 ≤ cntG id p ms i ∧ cntG id p ms i ≤ i + 1
  | 0 => by simp [cntG]
  | i + 1 => by
    have := cntG_le id p ms i
    rw [cntG]
    split <;> omega
/-- What is committed, seen from a place downwards. -/
def advG (n : ND) : Nat → Int
  | 0 => n.com
  | p + 1 => if (p : Int) + 1 ≤ n.com then n.com else if tmAt n.log ((p : Int) + 1) = n.term ∧ n.nodes < 2 * cntG n.id ((p : Int) + 1) n.ms n.ms.length then (p : Int) + 1 else advG n p
theorem advG_low {n : ND} {p : Nat} (h : (p : Int) ≤ n.com) (h0 : 0 ≤ n.com) : advG n p = n.com := by
  cases p with
  | zero => rfl
  | succ p => rw [advG, if_pos (by omega)]
theorem advG_up {n : ND} {p : Nat} (h : n.com < p) (h0 : 0 ≤ n.com) : advG n p = if tmAt n.log p = n.term ∧ n.nodes < 2 * cntG n.id p n.ms n.ms.length then (p : Int) else advG n (p - 1) := by
  cases p with
  | zero => omega
  | succ p =>
    have e : ((p + 1 : Nat) : Int) = (p : Int) + 1 := rfl
    rw [advG, if_neg (by omega), e]; rfl
def c_advance : FSpec := ⟨[(.bx, .box [.int .i64, .int .i64, .int .i64, .int .i64, .int .i64, .bool, .list (.agg [.int .i64, .str]), .int .i64, .int .i64, .int .i64, .list (.int .i64), .list (.int .i64), .list (.int .i64)])], [], true, fun ps => 0 ≤ (nth (nth ps 0).A 7).I ∧ (nth (nth ps 0).A 12).L.length ≤ 5 ∧ (nth (nth ps 0).A 6).L.length ≤ 1024, fun _ => [],
  fun ps => [.agg [nth (nth ps 0).A 0, nth (nth ps 0).A 1, nth (nth ps 0).A 2, nth (nth ps 0).A 3, nth (nth ps 0).A 4, nth (nth ps 0).A 5, nth (nth ps 0).A 6, .int .i64 (advG (ndOf (nth ps 0).A) (nth (nth ps 0).A 6).L.length), nth (nth ps 0).A 8, nth (nth ps 0).A 9, nth (nth ps 0).A 10, nth (nth ps 0).A 11, nth (nth ps 0).A 12]]⟩
theorem k_advance : FnOk Try.prog 73 c_advance := by
  refine fn_mk [0, 2, 3, 4, 5, 22, 23, 24] [] (env_cons (cs := []) k_termAt (env_nil (tyTab_ok []))) mixed Try.func73 rfl (by decide) rfl (by decide) rfl ?_
  intro ps hT hpre W hW
  simp only [c_advance, TyA, Ty, Tys] at hT hpre
  obtain ⟨_, _, rfl, ⟨_, rfl, _, _, rfl, ⟨n0, rfl, hn0⟩, _, _, rfl, ⟨n1, rfl, hn1⟩, _, _, rfl, ⟨n2, rfl, hn2⟩, _, _, rfl, ⟨n3, rfl, hn3⟩, _, _, rfl, ⟨n4, rfl, hn4⟩, _, _, rfl, ⟨u, rfl⟩, _, _, rfl, ⟨es, rfl, hes, tes⟩, _, _, rfl, ⟨n5, rfl, hn5⟩, _, _, rfl, ⟨n6, rfl, hn6⟩, _, _, rfl, ⟨n7, rfl, hn7⟩, _, _, rfl, ⟨vs, rfl, hvs, tvs⟩, _, _, rfl, ⟨xs, rfl, hxs, txs⟩, _, _, rfl, ⟨ms, rfl, hms, tms⟩, rfl⟩, rfl⟩ := hT
  simp only [nth_zero, nth_succ, pv_I, pv_L, pv_A] at hpre
  refine hW.vc [(10, [], .take 0 <| .take 1 <| .take 3 <| .take 4 <| .take 5 <| .take 6 <| .alt 2 (.take 7 <| .take 8 <| .take 9 <| .take 10 <| .take 11 <| .take 12 <| .take 13 <| .take 14 <| .take 15 <| .take 16 <| .done) .stop)] _ _ ?_
  simp [-List.getD_eq_getElem?_getD, c_advance, c_termAt, ndOf]
  obtain ⟨p1, p2, p3⟩ := hpre
  obtain ⟨nd, hnd⟩ : ∃ nd : ND, nd = ⟨n0, n1, n2, n3, n4, u, es, n5, n6, n7, vs, xs, ms⟩ := ⟨_, rfl⟩
  have hc : nd.com = n5 := by rw [hnd]
  have hl : nd.log = es := by rw [hnd]
  have ht : nd.term = n2 := by rw [hnd]
  have hn : nd.nodes = n1 := by rw [hnd]
  have hi : nd.id = n0 := by rw [hnd]
  have hm : nd.ms = ms := by rw [hnd]
  refine fun _ => hW.loopS _ _ _ [.sl 2 .dp (.int .i64)] (fun ys => ∃ p : Nat, ys = [.int .i64 p] ∧ p ≤ es.length ∧ advG nd es.length = advG nd p) (fun ys => (nth ys 0).I.toNat) ?_ ?_
  · simp [-List.getD_eq_getElem?_getD, c_advance, c_termAt]
    exact ⟨_, rfl, by omega, rfl⟩
  · rintro ys ⟨p, rfl, g1, g2⟩
    refine hW.vc [(10, [], .take 0 <| .take 1 <| .take 3 <| .take 4 <| .take 5 <| .take 6 <| .alt 2 (.take 7 <| .take 8 <| .take 9 <| .take 10 <| .take 11 <| .take 12 <| .take 13 <| .take 14 <| .take 15 <| .take 16 <| .done) .stop)] _ _ ?_
    simp [-List.getD_eq_getElem?_getD, c_advance, c_termAt, ndOf]
    rw [← hnd]
    refine ⟨fun g3 _ => ?_, fun g3 => ?_⟩
    · refine hW.loopS _ _ _ [.sl 24 .dp (.int .i64), .sl 3 .dp (.int .i64)] (fun ys => ∃ i : Nat, ys = [.int .i64 i, .int .i64 (cntG n0 p ms i)] ∧ i ≤ ms.length) (fun ys => ms.length - (nth ys 0).I.toNat) ?_ ?_
      · simp [-List.getD_eq_getElem?_getD, c_advance, c_termAt]
        exact ⟨0, ⟨rfl, rfl⟩, by omega⟩
      · rintro ys ⟨i, rfl, q1⟩
        refine hW.vc [(10, [], .take 0 <| .take 1 <| .take 3 <| .take 4 <| .take 5 <| .take 6 <| .alt 2 (.take 7 <| .take 8 <| .take 9 <| .take 10 <| .take 11 <| .take 12 <| .take 13 <| .take 14 <| .take 15 <| .take 16 <| .done) .stop)] _ _ ?_
        simp [-List.getD_eq_getElem?_getD, c_advance, c_termAt, ndOf]
        have hb := cntG_le n0 p ms i
        rw [← hnd, g2]
        have hu : n5 < p → advG nd p = if tmAt es p = n2 ∧ n1 < 2 * cntG n0 p ms ms.length then (p : Int) else advG nd (p - 1) := fun h => by
          rw [advG_up (by rw [hc]; exact h) (by rw [hc]; exact p1), hl, ht, hn, hi, hm]
        refine ⟨fun q2 => ⟨q2, fun _ => ⟨fun a b => ⟨⟨i + 1, ⟨wrap64 (by omega), ?_⟩, by omega⟩, by rw [wrap64 (by omega)]; omega⟩, fun a => ⟨⟨i + 1, ⟨wrap64 (by omega), ?_⟩, by omega⟩, by rw [wrap64 (by omega)]; omega⟩⟩⟩, fun q2 => ⟨by decide +kernel, g1, ?_⟩⟩
        · rw [cntG, if_pos ⟨a, b⟩, wrap64 (by omega)]
        · rw [cntG, if_neg (fun h => by have := a h.1; omega)]
        · have : i = ms.length := by omega
          subst this
          rw [wrap64 (n := 2 * _) (by omega), wrap64 (n := (p : Int) - 1) (by omega)]
          refine ⟨fun a b => by rw [hu g3, if_pos ⟨a, b⟩], fun a => ⟨⟨p - 1, by omega, by omega, ?_⟩, by omega⟩⟩
          rw [hu g3, if_neg (fun h => by have := a h.1; omega)]
    · rw [g2, advG_low (by rw [hc]; exact g3) (by rw [hc]; exact p1), hc]

end Go.Proofs.Ytkofjkjcbljkdaa
end

section
namespace Go.Proofs.Ytkofjkjcbljkdaa
variable [LaidG]
set_option maxRecDepth 100000
set_option linter.unusedSimpArgs false

/-- A leader's log. -/
def leadL (t : Int) (es : List PV) : List PV := if es.length < 60 then es ++ [.agg [.int .i64 t, .str []]] else es
def leadN (n : ND) : ND :=
  { n with role := 2, ela := 0, nx := List.replicate n.nodes.toNat (.int .i64 (n.log.length + 1)), ms := List.replicate n.nodes.toNat (.int .i64 0), log := leadL n.term n.log }
/-- A new leader. -/
def leadA (n : ND) : ND := { leadN n with com := advG (leadN n) (leadN n).log.length }
def leadOk (n : ND) : Prop := 1 ≤ n.nodes ∧ n.nodes ≤ 5 ∧ 0 ≤ n.com ∧ n.log.length ≤ 60
theorem leadL_len (t : Int) (es : List PV) : es.length ≤ (leadL t es).length ∧ (leadL t es).length ≤ es.length + 1 := by
  unfold leadL; split <;> simp
theorem nth_rep {x : PV} {n i : Nat} (h : i < n) : nth (List.replicate n x) i = x := by simp [nth, h]
theorem leadA_ok {n : ND} (h : leadOk n) : repsOk (leadA n) := by
  obtain ⟨h1, h2, h3, h4⟩ := h
  have h5 := leadL_len n.term n.log
  refine ⟨h1, h2, fun i hi => ?_⟩
  have hi' : (i : Int) < n.nodes := hi
  have e1 : (leadA n).nx = List.replicate n.nodes.toNat (.int .i64 (n.log.length + 1)) := rfl
  have e2 : (leadA n).log = leadL n.term n.log := rfl
  have e3 : (nth (leadA n).nx ((i : Int)).toNat).I = n.log.length + 1 := by rw [e1, nth_rep (by omega), pv_I]
  refine ⟨by omega, by rw [e1, List.length_replicate]; omega, by rw [e3]; omega, by rw [e3, e2]; omega, by rw [e2]; omega⟩

def c_lead : FSpec := ⟨[(.bx, .box [.int .i64, .int .i64, .int .i64, .int .i64, .int .i64, .bool, .list (.agg [.int .i64, .str]), .int .i64, .int .i64, .int .i64, .list (.int .i64), .list (.int .i64), .list (.int .i64)])], [.list (.agg [.int .i64, .int .i64, .int .i64, .int .i64, .int .i64, .int .i64, .int .i64, .bool, .list (.agg [.int .i64, .str])])], true, fun ps => leadOk (ndOf (nth ps 0).A), fun ps => [.list (repAll (leadA (ndOf (nth ps 0).A)) (nth (nth ps 0).A 1).I.toNat)],
  fun ps => [(leadA (ndOf (nth ps 0).A)).pv]⟩
theorem k_lead : FnOk Try.prog 71 c_lead := by
  refine fn_mk [0, 2] [.tmp 2] (env_cons (cs := []) k_replicateAll (env_cons (cs := []) k_advance (env_cons (cs := []) k_reset (env_nil (tyTab_ok []))))) mixed Try.func71 rfl (by decide) rfl (by decide) rfl ?_
  intro ps hT hpre W hW
  simp only [c_lead, TyA, Ty, Tys] at hT hpre
  obtain ⟨_, _, rfl, ⟨_, rfl, _, _, rfl, ⟨n0, rfl, hn0⟩, _, _, rfl, ⟨n1, rfl, hn1⟩, _, _, rfl, ⟨n2, rfl, hn2⟩, _, _, rfl, ⟨n3, rfl, hn3⟩, _, _, rfl, ⟨n4, rfl, hn4⟩, _, _, rfl, ⟨u, rfl⟩, _, _, rfl, ⟨es, rfl, hes, tes⟩, _, _, rfl, ⟨n5, rfl, hn5⟩, _, _, rfl, ⟨n6, rfl, hn6⟩, _, _, rfl, ⟨n7, rfl, hn7⟩, _, _, rfl, ⟨vs, rfl, hvs, tvs⟩, _, _, rfl, ⟨xs, rfl, hxs, txs⟩, _, _, rfl, ⟨ms, rfl, hms, tms⟩, rfl⟩, rfl⟩ := hT
  simp only [nth_zero, nth_succ, pv_I, pv_L, pv_A, pv_B, ndOf] at hpre
  refine hW.vc [(4, [11, 14], .take 0 <| .take 1 <| .take 2 <| .take 3 <| .take 4 <| .take 5 <| .take 6 <| .take 7 <| .take 8 <| .take 9 <| .alt 10 (.alt 11 (.take 12 <| .take 13 <| .alt 14 (.done) .stop) .stop) .stop)] _ _ ?_
  simp [-List.getD_eq_getElem?_getD, c_lead, c_reset, c_advance, c_replicateAll, ndOf, ND.pv]
  have hk := leadA_ok hpre
  obtain ⟨p1, p2, p3, p4⟩ := hpre
  simp only at p1 p2 p3 p4
  rw [wrap64 (n := (es.length : Int) + 1) (by omega)]
  refine fun _ => ⟨⟨p1, p2⟩, fun _ => ⟨fun h => ?_, fun h => ?_⟩⟩
  · have hA : leadA ⟨n0, n1, n2, n3, n4, u, es, n5, n6, n7, vs, xs, ms⟩ = ⟨n0, n1, n2, n3, 2, u, es ++ [.agg [.int .i64 n2, .str []]],
        advG ⟨n0, n1, n2, n3, 2, u, es ++ [.agg [.int .i64 n2, .str []]], n5, 0, n7, vs, List.replicate n1.toNat (.int .i64 (es.length + 1)), List.replicate n1.toNat (.int .i64 0)⟩ (es.length + 1), 0, n7, vs,
        List.replicate n1.toNat (.int .i64 (es.length + 1)), List.replicate n1.toNat (.int .i64 0)⟩ := by
      have h' : es.length < 60 := by omega
      simp only [leadA, leadN, leadL, if_pos h', List.length_append, List.length_singleton]
    rw [hA] at hk ⊢
    exact ⟨by decide +kernel, by omega, fun _ => ⟨⟨p3, p2, by omega⟩, hk, rfl, rfl, rfl, rfl, rfl, rfl, rfl, rfl, rfl, rfl, rfl, rfl, rfl, rfl⟩⟩
  · have hA : leadA ⟨n0, n1, n2, n3, n4, u, es, n5, n6, n7, vs, xs, ms⟩ = ⟨n0, n1, n2, n3, 2, u, es,
        advG ⟨n0, n1, n2, n3, 2, u, es, n5, 0, n7, vs, List.replicate n1.toNat (.int .i64 (es.length + 1)), List.replicate n1.toNat (.int .i64 0)⟩ es.length, 0, n7, vs,
        List.replicate n1.toNat (.int .i64 (es.length + 1)), List.replicate n1.toNat (.int .i64 0)⟩ := by
      have h' : ¬ es.length < 60 := by omega
      simp only [leadA, leadN, leadL, if_neg h']
    rw [hA] at hk ⊢
    exact ⟨⟨p3, p2, by omega⟩, hk, rfl, rfl, rfl, rfl, rfl, rfl, rfl, rfl, rfl, rfl, rfl, rfl, rfl, rfl⟩

/-- The message by which a candidate asks for a vote. -/
def voteM (n : ND) (to : Int) : PV := .agg [.int .i64 1, .int .i64 n.id, .int .i64 to, .int .i64 n.term, .int .i64 n.log.length, .int .i64 (tmAt n.log n.log.length), .int .i64 0, .bool false, .list []]
def voteAll (n : ND) : Nat → List PV
  | 0 => []
  | k + 1 => voteAll n k ++ (if (k : Int) = n.id then [] else [voteM n k])
theorem voteAll_len (n : ND) : ∀ k, (voteAll n k).length ≤ k
  | 0 => Nat.le_refl _
  | k + 1 => by
    have := voteAll_len n k
    rw [voteAll, List.length_append]
    split <;> simp <;> omega
/-- A candidate. -/
def standN (n : ND) (d : Int) : ND := { n with term := n.term + 1, vote := n.id, role := 1, vs := [.int .i64 n.id], ela := 0, wt := 5 + d.tmod 8 }
def elaN (n : ND) : ND := { n with ela := if 1000 < n.ela + 1 then 1000 else n.ela + 1 }
def standR (n : ND) (d : Int) : ND × List PV := if n.nodes = 1 then (leadA (standN n d), repAll (leadA (standN n d)) n.nodes.toNat) else (standN n d, voteAll (standN n d) n.nodes.toNat)
def tickN (n : ND) (d : Int) : ND × List PV :=
  if n.role = 2 then (if (elaN n).ela < 2 then (elaN n, []) else ({ n with ela := 0 }, repAll { n with ela := 0 } n.nodes.toNat))
  else if (elaN n).ela < n.wt ∨ n.term = 1000 then (elaN n, []) else standR n d
theorem tick_a {n : ND} {d : Int} (h1 : n.role = 2) (h2 : (elaN n).ela < 2) : tickN n d = (elaN n, []) := by rw [tickN, if_pos h1, if_pos h2]
theorem tick_b {n : ND} {d : Int} (h1 : n.role = 2) (h2 : ¬ (elaN n).ela < 2) : tickN n d = ({ n with ela := 0 }, repAll { n with ela := 0 } n.nodes.toNat) := by rw [tickN, if_pos h1, if_neg h2]
theorem tick_c {n : ND} {d : Int} (h1 : ¬ n.role = 2) (h2 : (elaN n).ela < n.wt ∨ n.term = 1000) : tickN n d = (elaN n, []) := by rw [tickN, if_neg h1, if_pos h2]
theorem tick_d {n : ND} {d : Int} (h1 : ¬ n.role = 2) (h2 : ¬ ((elaN n).ela < n.wt ∨ n.term = 1000)) (h3 : n.nodes = 1) : tickN n d = (leadA (standN n d), repAll (leadA (standN n d)) n.nodes.toNat) := by rw [tickN, if_neg h1, if_neg h2, standR, if_pos h3]
theorem tick_e {n : ND} {d : Int} (h1 : ¬ n.role = 2) (h2 : ¬ ((elaN n).ela < n.wt ∨ n.term = 1000)) (h3 : ¬ n.nodes = 1) : tickN n d = (standN n d, voteAll (standN n d) n.nodes.toNat) := by rw [tickN, if_neg h1, if_neg h2, standR, if_neg h3]

theorem nm_get {l : Int} : ∀ {xs ms : List PV}, nmB l xs ms = true → xs.length = ms.length → ∀ i, i < xs.length → 1 ≤ (nth xs i).I ∧ (nth xs i).I ≤ l + 1 ∧ 0 ≤ (nth ms i).I ∧ (nth ms i).I ≤ (nth xs i).I - 1
  | [], _, _, _, i, hi => by simp at hi
  | x :: xs, [], _, hl, i, hi => by simp at hl
  | x :: xs, m :: ms, h, hl, i, hi => by
    simp only [nmB, Bool.and_eq_true, inB, decide_eq_true_eq] at h
    cases i with
    | zero => simp only [nth_zero]; omega
    | succ i => simp only [nth_succ]; exact nm_get h.2 (by simpa using hl) i (by simpa using hi)
structure NdF (n : ND) : Prop where
  n1 : 1 ≤ n.nodes
  n5 : n.nodes ≤ 5
  i0 : 0 ≤ n.id
  i1 : n.id ≤ n.nodes - 1
  t0 : 0 ≤ n.term
  t1 : n.term ≤ 1000
  en : entB n.term 0 n.log = true
  l6 : n.log.length ≤ 60
  r0 : 0 ≤ n.role
  r2 : n.role ≤ 2
  ur : n.up = true ∨ n.role = 0
  c0 : 0 ≤ n.com
  c1 : n.com ≤ n.log.length
  e0 : 0 ≤ n.ela
  e1 : n.ela ≤ 1000
  w5 : 5 ≤ n.wt
  w1 : n.wt ≤ 100
  nx : (n.nx.length : Int) = n.nodes
  ms : (n.ms.length : Int) = n.nodes
  vo : voB n.nodes (-1) n.vs = true
  nm : nmB n.log.length n.nx n.ms = true
  vt : -1 ≤ n.vote ∧ n.vote ≤ 4 ∧ n.vote < n.nodes
theorem nodeB_F {n : ND} (h : nodeB n = true) : NdF n := by
  simp only [nodeB, ndB1, stB, entsB, inB, leB, ltB, Bool.and_eq_true, Bool.or_eq_true, decide_eq_true_eq, beq_iff_eq] at h
  obtain ⟨⟨⟨⟨⟨⟨⟨⟨⟨⟨⟨⟨h1, h2⟩, h3⟩, h4⟩, h5⟩, h6⟩, h7⟩, h8⟩, h9⟩, h10⟩, h11⟩, h12⟩, h13⟩ := h
  exact ⟨by omega, by omega, by omega, by omega, by omega, by omega, h3.2.1, by omega, by omega, by omega, h6, by omega, by omega, by omega, by omega, by omega, by omega, h10, h11, h12, h13, by omega⟩
theorem NdF.reps {n : ND} (h : NdF n) : repsOk n := by
  refine ⟨h.n1, h.n5, fun i hi => ?_⟩
  have h1 := h.nx
  have h2 := h.ms
  have h3 := h.l6
  have := nm_get h.nm (by omega) i (by omega)
  exact ⟨by omega, by omega, by rw [Int.toNat_natCast]; omega, by rw [Int.toNat_natCast]; omega, by omega⟩

def c_tick : FSpec := ⟨[(.bx, .box [.int .i64, .int .i64, .int .i64, .int .i64, .int .i64, .bool, .list (.agg [.int .i64, .str]), .int .i64, .int .i64, .int .i64, .list (.int .i64), .list (.int .i64), .list (.int .i64)]), (.rd, .int .i64)], [.list (.agg [.int .i64, .int .i64, .int .i64, .int .i64, .int .i64, .int .i64, .int .i64, .bool, .list (.agg [.int .i64, .str])])], true, fun ps => nodeB (ndOf (nth ps 0).A) = true ∧ 0 ≤ (nth ps 1).I ∧ (nth ps 1).I ≤ 1000000, fun ps => [.list (tickN (ndOf (nth ps 0).A) (nth ps 1).I).2],
  fun ps => [(tickN (ndOf (nth ps 0).A) (nth ps 1).I).1.pv]⟩
theorem k_tick : FnOk Try.prog 40 c_tick := by
  refine fn_mk [0, 1, 4, 5, 6, 7, 92, 93] [.tmp 4] (env_cons (cs := []) k_termAt (env_cons (cs := []) k_message (env_cons (cs := []) k_lead (env_cons (cs := []) k_replicateAll (env_nil (tyTab_ok [])))))) mixed Try.func40 rfl (by decide) rfl (by decide) rfl ?_
  intro ps hT hpre W hW
  simp only [c_tick, TyA, Ty, Tys] at hT hpre
  obtain ⟨_, _, rfl, ⟨_, rfl, _, _, rfl, ⟨n0, rfl, hn0⟩, _, _, rfl, ⟨n1, rfl, hn1⟩, _, _, rfl, ⟨n2, rfl, hn2⟩, _, _, rfl, ⟨n3, rfl, hn3⟩, _, _, rfl, ⟨n4, rfl, hn4⟩, _, _, rfl, ⟨u, rfl⟩, _, _, rfl, ⟨es, rfl, hes, tes⟩, _, _, rfl, ⟨n5, rfl, hn5⟩, _, _, rfl, ⟨n6, rfl, hn6⟩, _, _, rfl, ⟨n7, rfl, hn7⟩, _, _, rfl, ⟨vs, rfl, hvs, tvs⟩, _, _, rfl, ⟨xs, rfl, hxs, txs⟩, _, _, rfl, ⟨ms, rfl, hms, tms⟩, rfl⟩, _, _, rfl, ⟨d, rfl, hd⟩, rfl⟩ := hT
  simp only [nth_zero, nth_succ, pv_I, pv_L, pv_A, pv_B, ndOf] at hpre
  refine hW.vc [(7, [], .take 0 <| .take 1 <| .take 2 <| .take 3 <| .take 4 <| .take 5 <| .take 6 <| .take 7 <| .take 8 <| .take 9 <| .take 10 <| .take 11 <| .take 12 <| .take 13 <| .take 14 <| .take 15 <| .done), (10, [19, 22, 25, 28, 31], .take 0 <| .take 1 <| .take 2 <| .take 3 <| .take 4 <| .take 5 <| .take 6 <| .take 7 <| .take 8 <| .take 9 <| .take 10 <| .take 11 <| .take 12 <| .take 14 <| .take 15 <| .take 16 <| .take 17 <| .take 18 <| .alt 13 (.alt 19 (.take 20 <| .take 21 <| .alt 22 (.take 23 <| .take 24 <| .alt 25 (.take 26 <| .take 27 <| .alt 28 (.take 29 <| .take 30 <| .alt 31 (.done) .stop) .stop) .stop) .stop) .stop) (.alt 19 (.take 20 <| .take 21 <| .alt 13 (.alt 22 (.take 23 <| .take 24 <| .alt 25 (.take 26 <| .take 27 <| .alt 28 (.take 29 <| .take 30 <| .alt 31 (.done) .stop) .stop) .stop) .stop) (.alt 22 (.alt 13 (.take 23 <| .take 24 <| .alt 25 (.take 26 <| .take 27 <| .alt 28 (.take 29 <| .take 30 <| .alt 31 (.done) .stop) .stop) .stop) .stop) .stop)) .stop)), (19, [13, 15], .take 0 <| .take 1 <| .take 2 <| .take 3 <| .take 4 <| .take 5 <| .take 6 <| .take 7 <| .take 8 <| .take 9 <| .take 10 <| .take 12 <| .alt 11 (.alt 13 (.take 14 <| .alt 15 (.done) .stop) .stop) .stop)] _ _ ?_
  simp [-List.getD_eq_getElem?_getD, c_tick, c_replicateAll, c_lead, c_message, c_termAt, ndOf, ND.pv]
  obtain ⟨hB, hd0, hd1⟩ := hpre
  have hF := nodeB_F hB
  obtain ⟨nd, hnd⟩ : ∃ nd : ND, nd = ⟨n0, n1, n2, n3, n4, u, es, n5, n6, n7, vs, xs, ms⟩ := ⟨_, rfl⟩
  have f1 : 1 ≤ n1 ∧ n1 ≤ 5 ∧ 0 ≤ n0 ∧ n0 ≤ n1 - 1 ∧ 0 ≤ n2 ∧ n2 ≤ 1000 ∧ es.length ≤ 60 ∧ 0 ≤ n5 ∧ 0 ≤ n6 ∧ n6 ≤ 1000 := ⟨hF.n1, hF.n5, hF.i0, hF.i1, hF.t0, hF.t1, hF.l6, hF.c0, hF.e0, hF.e1⟩
  have ht : 0 ≤ d.tmod 8 ∧ d.tmod 8 < 8 := ⟨Int.tmod_nonneg _ hd0, Int.tmod_lt_of_pos _ (by omega)⟩
  have e1 : IntKind.i64.wrap (n6 + 1) = n6 + 1 := wrap64 (by omega)
  have e2 : IntKind.i64.wrap (n2 + 1) = n2 + 1 := wrap64 (by omega)
  have e3 : IntKind.i64.wrap (5 + d.tmod 8) = 5 + d.tmod 8 := wrap64 (by omega)
  have hr : repsOk { nd with ela := 0 } := by rw [hnd]; exact hF.reps
  rw [e1, e2, e3, ← hnd]
  have hq : nd.role = n4 ∧ nd.wt = n7 ∧ nd.term = n2 ∧ nd.nodes = n1 ∧ (elaN nd).ela = (if 1000 < n6 + 1 then 1000 else n6 + 1) := by rw [hnd]; exact ⟨rfl, rfl, rfl, rfl, rfl⟩
  obtain ⟨q1, q2, q3, q4, q5⟩ := hq
  refine ⟨fun h1 => ⟨fun h2 => ?_, fun h2 => ?_⟩, fun h1 => ⟨by decide +kernel, fun h2 => ?_, fun h2 h3 => ⟨by decide +kernel, fun h4 => ?_, fun h4 => ?_⟩⟩⟩
  · rw [tick_a (by rw [q1]; exact h1) (by rw [q5]; exact h2), hnd]
    exact ⟨rfl, rfl, rfl, rfl, rfl, rfl, rfl, rfl, rfl, rfl, rfl, rfl, rfl, rfl⟩
  · rw [tick_b (by rw [q1]; exact h1) (by rw [q5]; exact Int.not_lt.2 h2)]
    refine ⟨?_, ?_⟩
    · rw [hnd] at hr; exact hr
    · rw [hnd]; exact ⟨rfl, rfl, rfl, rfl, rfl, rfl, rfl, rfl, rfl, rfl, rfl, rfl, rfl, rfl⟩
  · rw [tick_c (by rw [q1]; exact h1) (by rw [q5, q2, q3]; exact h2), hnd]
    exact ⟨rfl, rfl, rfl, rfl, rfl, rfl, rfl, rfl, rfl, rfl, rfl, rfl, rfl, rfl⟩
  · rw [tick_d (by rw [q1]; exact h1) (by rw [q5, q2, q3]; exact fun h => h.elim (fun h => absurd h2 (Int.not_le.2 h)) h3) (by rw [q4]; exact h4), hnd]
    exact ⟨⟨f1.1, f1.2.1, f1.2.2.2.2.2.2.2.1, f1.2.2.2.2.2.2.1⟩, rfl, rfl, rfl, rfl, rfl, rfl, rfl, rfl, rfl, rfl, rfl, rfl, rfl, rfl⟩
  · have hT := tick_e (d := d) (by rw [q1]; exact h1) (by rw [q5, q2, q3]; exact fun h => h.elim (fun h => absurd h2 (Int.not_le.2 h)) h3) (by rw [q4]; exact h4)
    have hS : standN nd d = ⟨n0, n1, n2 + 1, n0, 1, u, es, n5, 0, 5 + d.tmod 8, [.int .i64 n0], xs, ms⟩ := by rw [hnd]; rfl
    obtain ⟨sd, hsd⟩ : ∃ sd : ND, sd = standN nd d := ⟨_, rfl⟩
    rw [← hsd] at hS hT
    refine hW.loopS _ _ _ [.sl 93 .dp (.int .i64), .sl 5 .dp (.list (.agg [.int .i64, .int .i64, .int .i64, .int .i64, .int .i64, .int .i64, .int .i64, .bool, .list (.agg [.int .i64, .str])]))] (fun ys => ∃ i : Nat, ys = [.int .i64 i, .list (voteAll sd i)] ∧ (i : Int) ≤ n1) (fun ys => n1.toNat - (nth ys 0).I.toNat) ?_ ?_
    · simp [-List.getD_eq_getElem?_getD, c_tick, c_replicateAll, c_lead, c_message, c_termAt]
      exact ⟨0, ⟨rfl, rfl⟩, by omega⟩
    · rintro ys ⟨i, rfl, g1⟩
      refine hW.vc [(7, [], .take 0 <| .take 1 <| .take 2 <| .take 3 <| .take 4 <| .take 5 <| .take 6 <| .take 7 <| .take 8 <| .take 9 <| .take 10 <| .take 11 <| .take 12 <| .take 13 <| .take 14 <| .take 15 <| .done), (10, [19, 22, 25, 28, 31], .take 0 <| .take 1 <| .take 2 <| .take 3 <| .take 4 <| .take 5 <| .take 6 <| .take 7 <| .take 8 <| .take 9 <| .take 10 <| .take 11 <| .take 12 <| .take 14 <| .take 15 <| .take 16 <| .take 17 <| .take 18 <| .alt 13 (.alt 19 (.take 20 <| .take 21 <| .alt 22 (.take 23 <| .take 24 <| .alt 25 (.take 26 <| .take 27 <| .alt 28 (.take 29 <| .take 30 <| .alt 31 (.done) .stop) .stop) .stop) .stop) .stop) (.alt 19 (.take 20 <| .take 21 <| .alt 13 (.alt 22 (.take 23 <| .take 24 <| .alt 25 (.take 26 <| .take 27 <| .alt 28 (.take 29 <| .take 30 <| .alt 31 (.done) .stop) .stop) .stop) .stop) (.alt 22 (.alt 13 (.take 23 <| .take 24 <| .alt 25 (.take 26 <| .take 27 <| .alt 28 (.take 29 <| .take 30 <| .alt 31 (.done) .stop) .stop) .stop) .stop) .stop)) .stop)), (19, [13, 15], .take 0 <| .take 1 <| .take 2 <| .take 3 <| .take 4 <| .take 5 <| .take 6 <| .take 7 <| .take 8 <| .take 9 <| .take 10 <| .take 12 <| .alt 11 (.alt 13 (.take 14 <| .alt 15 (.done) .stop) .stop) .stop)] _ _ ?_
      simp [-List.getD_eq_getElem?_getD, c_tick, c_replicateAll, c_lead, c_message, c_termAt, ndOf]
      have hl := voteAll_len sd i
      rw [wrap64 (n := (i : Int) + 1) (by omega)]
      refine ⟨fun g2 => ⟨fun g3 => ⟨by decide +kernel, fun _ => ⟨by omega, fun _ => ⟨⟨i + 1, ⟨rfl, ?_⟩, by omega⟩, by omega⟩⟩⟩, fun g3 => ⟨⟨i + 1, ⟨rfl, ?_⟩, by omega⟩, by omega⟩⟩, fun g2 => ?_⟩
      · rw [voteAll, if_neg (by rw [hS]; exact g3), hS]; rfl
      · rw [voteAll, if_pos (by rw [hS]; exact g3), List.append_nil]
      · have : i = n1.toNat := by omega
        rw [← hnd, hT, q4, this]
        exact ⟨rfl, by rw [hS]; rfl⟩

def ntOf (n : ND) (d : Int) : ND × List PV × Int :=
  cond (nodeB n) (cond (inB d 0 1000000) (cond n.up ((tickN n d).1, (tickN n d).2, 0) (n, [], 13)) (ND.no, [], 4)) (ND.no, [], 1)
def c_iNodeTick : FSpec := ⟨[(.rd, .agg [.int .i64, .int .i64, .int .i64, .int .i64, .int .i64, .bool, .list (.agg [.int .i64, .str]), .int .i64, .int .i64, .int .i64, .list (.int .i64), .list (.int .i64), .list (.int .i64)]), (.rd, .int .i64)], [.agg [.int .i64, .int .i64, .int .i64, .int .i64, .int .i64, .bool, .list (.agg [.int .i64, .str]), .int .i64, .int .i64, .int .i64, .list (.int .i64), .list (.int .i64), .list (.int .i64)], .list (.agg [.int .i64, .int .i64, .int .i64, .int .i64, .int .i64, .int .i64, .int .i64, .bool, .list (.agg [.int .i64, .str])]), .int .i64], true, fun ps => (nth (nth ps 0).A 10).L.length ≤ 1048576,
  fun ps => [(ntOf (ndOf (nth ps 0).A) (nth ps 1).I).1.pv, .list (ntOf (ndOf (nth ps 0).A) (nth ps 1).I).2.1, .int .i64 (ntOf (ndOf (nth ps 0).A) (nth ps 1).I).2.2], fun _ => []⟩
theorem k_iNodeTick : FnOk Try.prog 13 c_iNodeTick := by
  refine fn_mk [0, 1, 2, 4, 5, 6, 7, 8] [.cell 4 26, .tmp 5, .tmp 6] (env_cons (cs := []) k_tick (env_cons (cs := []) k_cloneNode (env_cons (cs := []) k_within (env_cons (cs := []) k_isNode (env_nil (tyTab_ok [])))))) mixed Try.func13 rfl (by decide) rfl (by decide) rfl ?_
  intro ps hT hpre W hW
  simp only [c_iNodeTick, TyA, Ty, Tys] at hT hpre
  obtain ⟨_, _, rfl, ⟨_, rfl, _, _, rfl, ⟨n0, rfl, hn0⟩, _, _, rfl, ⟨n1, rfl, hn1⟩, _, _, rfl, ⟨n2, rfl, hn2⟩, _, _, rfl, ⟨n3, rfl, hn3⟩, _, _, rfl, ⟨n4, rfl, hn4⟩, _, _, rfl, ⟨u, rfl⟩, _, _, rfl, ⟨es, rfl, hes, tes⟩, _, _, rfl, ⟨n5, rfl, hn5⟩, _, _, rfl, ⟨n6, rfl, hn6⟩, _, _, rfl, ⟨n7, rfl, hn7⟩, _, _, rfl, ⟨vs, rfl, hvs, tvs⟩, _, _, rfl, ⟨xs, rfl, hxs, txs⟩, _, _, rfl, ⟨ms, rfl, hms, tms⟩, rfl⟩, _, _, rfl, ⟨d, rfl, hd⟩, rfl⟩ := hT
  simp only [nth_zero, nth_succ, pv_I, pv_L, pv_A] at hpre
  refine hW.vc [] _ _ ?_
  simp [-List.getD_eq_getElem?_getD, c_iNodeTick, c_isNode, c_within, c_cloneNode, c_tick, c_toNode, ndOf, ND.pv]
  obtain ⟨nd, hnd⟩ : ∃ nd : ND, nd = ⟨n0, n1, n2, n3, n4, u, es, n5, n6, n7, vs, xs, ms⟩ := ⟨_, rfl⟩
  rw [← hnd]
  refine ⟨fun h1 => ?_, fun h1 => ⟨fun h2 => ?_, fun h2 => ?_⟩⟩
  · have e : ntOf nd d = (ND.no, [], 1) := by rw [ntOf, h1]; rfl
    rw [e]
    simp [ND.no]
  · have e : ntOf nd d = (ND.no, [], 4) := by rw [ntOf, h1, h2]; rfl
    rw [e]
    simp [ND.no]
  · have hF := nodeB_F h1
    have f1 : es.length ≤ 60 ∧ (xs.length : Int) ≤ 5 ∧ (ms.length : Int) ≤ 5 := by
      have a1 := hF.l6; have a2 := hF.nx; have a3 := hF.ms; have a4 := hF.n5
      rw [hnd] at a1 a2 a3 a4
      simp only at a1 a2 a3 a4
      exact ⟨a1, by omega, by omega⟩
    refine ⟨fun hu => ⟨⟨by omega, hpre, by omega, by omega⟩, ?_⟩, fun hu => ⟨⟨by omega, hpre, by omega, by omega⟩, ⟨h1, ?_⟩, ?_⟩⟩
    · have e : ntOf nd d = (nd, [], 13) := by rw [ntOf, h1, h2, show nd.up = false by rw [hnd]; exact hu]; rfl
      rw [e, hnd]; exact ⟨⟨rfl, rfl, rfl, rfl, rfl, rfl, rfl, rfl, rfl, rfl, rfl, rfl, rfl⟩, rfl, rfl⟩
    · simp [inB] at h2; omega
    · have e : ntOf nd d = ((tickN nd d).1, (tickN nd d).2, 0) := by rw [ntOf, h1, h2, show nd.up = true by rw [hnd]; exact hu]; rfl
      rw [e]; exact ⟨⟨rfl, rfl, rfl, rfl, rfl, rfl, rfl, rfl, rfl, rfl, rfl, rfl, rfl⟩, rfl, rfl⟩

end Go.Proofs.Ytkofjkjcbljkdaa
end

