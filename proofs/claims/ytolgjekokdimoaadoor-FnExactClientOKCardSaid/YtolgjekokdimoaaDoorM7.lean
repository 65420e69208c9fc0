/-
  Part 7 of the proof of FnExactClientOK: a verification-condition generator over the program and the contracts of its functions, in the order of their use.
  Conditions: none.
-/
import Derived.Test.YtolgjekokdimoaaDoorM6
import Derived.Shelf.Strings.Builder1
import Derived.Shelf.Strings.Builder2
import Derived.Shelf.Strings.BuilderF
import Derived.Shelf.Strconv.Itoa0
import Derived.Shelf.Strconv.Itoa1
import Derived.Shelf.LaysM
import Derived.Shelf.Strconv.Itoa2
import Derived.Shelf.Strconv.Itoa3
import Derived.Shelf.Strings.Search1
import Derived.Shelf.Strings.Search2
import Derived.Shelf.Strings.Search3
import Derived.Shelf.Strings.Count
import Derived.Shelf.Strings.Shaped
import Derived.Shelf.Strings.Prefix
import Derived.Shelf.Bits.Mul64
import Derived.Shelf.Strings.Repeat
import Derived.Shelf.Unicode.DecodeSlow
import Derived.Test.YtolgjekokdimoaaDoorProg
import Derived.Lib.ItoaNum
import Derived.OpenShut
import Derived.SizedLaws
import Derived.ReadAgain
import Derived.ProofKit
set_option linter.unusedVariables false
set_option linter.unusedSimpArgs false

section
namespace Go.Proofs.YtolgjekokdimoaaDoor
set_option maxRecDepth 100000
set_option linter.unusedSimpArgs false

def byteOf (x : Int) : UInt8 := UInt8.ofNat (x % 256).toNat
theorem byteOf_nat (x : Int) : ((byteOf x).toNat : Int) = x % 256 := by
  have h1 := Int.emod_nonneg x (show (256 : Int) ≠ 0 by omega)
  have h2 := Int.emod_lt_of_pos x (show (0 : Int) < 256 by omega)
  unfold byteOf
  rw [UInt8.toNat_ofNat', Nat.mod_eq_of_lt (by omega)]
  omega
theorem wrap8_byte (x : Int) : IntKind.u8.wrap x = (byteOf x).toNat := by
  rw [byteOf_nat]; simp [IntKind.wrap, IntKind.signed, IntKind.bits]

/-- A number's bytes, the greatest first. -/
def nB (n : Int) (k : Nat) : List UInt8 := (List.range k).map fun i => byteOf (n / 256 ^ (k - 1 - i))
theorem nB_len (n : Int) (k : Nat) : (nB n k).length = k := by simp [nB]
theorem nB_get {n : Int} {k i : Nat} (h : i < k) : (nB n k).getD i 0 = byteOf (n / 256 ^ (k - 1 - i)) := by
  simp [nB, h]
theorem nB_take {n : Int} {k i : Nat} (h : i < k) : (nB n k).take (i + 1) = (nB n k).take i ++ [byteOf (n / 256 ^ (k - 1 - i))] := by
  rw [List.take_succ_eq_append_getElem (by rw [nB_len]; exact h)]; simp [nB]
theorem nB_drop {n : Int} {k i : Nat} (h : i < k) : (nB n k).drop i = byteOf (n / 256 ^ (k - 1 - i)) :: (nB n k).drop (i + 1) := by
  rw [List.drop_eq_getElem_cons (by rw [nB_len]; exact h)]; simp [nB]

theorem bytesPV_len (l : List UInt8) : (bytesPV l).length = l.length := by simp [bytesPV]
theorem bytesPV_app (l m : List UInt8) : bytesPV (l ++ m) = bytesPV l ++ bytesPV m := by simp [bytesPV]
theorem bytesPV_one (b : UInt8) : bytesPV [b] = [.int .u8 b.toNat] := rfl
theorem pvBytes_bytes (l : List UInt8) : pvBytes (bytesPV l) = l := by
  simp only [pvBytes, bytesPV, List.map_map]
  conv => rhs; rw [← List.map_id l]
  exact List.map_congr_left fun b _ => by simp [pv_I]
theorem bytesPV_take (l : List UInt8) (i : Nat) : bytesPV (l.take i) = (bytesPV l).take i := by simp [bytesPV]

theorem shr8 {n : Int} {i : Nat} (h : 0 ≤ n) (hi : i ≤ 7) : shrI .i64 n (8 * i : Nat) = n / 256 ^ i := by
  unfold shrI
  have e : min (((8 * i : Nat) : Int).toNat) IntKind.i64.bits = 8 * i := by
    have : IntKind.i64.bits = 64 := rfl
    rw [this, Int.toNat_natCast]; omega
  rw [e, Int.fdiv_eq_ediv_of_nonneg _ (Int.pow_nonneg (by omega)), Int.pow_mul]
  rfl

def c_bigBytes : FSpec := ⟨[(.rd, .int .i64), (.rd, .int .i64)], [.str], true, fun ps => 0 ≤ (nth ps 0).I ∧ 0 ≤ (nth ps 1).I ∧ (nth ps 1).I ≤ 8, fun ps => [.str (nB (nth ps 0).I (nth ps 1).I.toNat)], fun _ => []⟩
theorem k_bigBytes : FnOk Tryd.prog 105 c_bigBytes := by
  refine fn_mk [0, 1, 4, 5, 6] [.tmp 4] (env_nil (tyTab_ok [])) mixed Tryd.func105 rfl (by decide) rfl (by decide) rfl ?_
  intro ps hT hpre W hW
  simp only [c_bigBytes, TyA, Ty, Tys] at hT hpre
  obtain ⟨_, _, rfl, ⟨n, rfl, hn⟩, _, _, rfl, ⟨k, rfl, hk⟩, rfl⟩ := hT
  simp only [nth_zero, nth_succ, pv_I] at hpre
  obtain ⟨hp1, hp2, hp3⟩ := hpre
  obtain ⟨m, rfl⟩ := Int.eq_ofNat_of_zero_le hp2
  rw [inR64] at hn
  refine hW.vc [] _ _ ?_
  simp [-List.getD_eq_getElem?_getD, c_bigBytes]
  refine ⟨by omega, hW.loopS _ _ _ [.sl 0 .dp (.int .i64), .sl 5 .dp (.list (.int .u8)), .sl 6 .dp (.int .i64)] (fun ys => ∃ j : Nat, ys = [.int .i64 (n / 256 ^ (m - j)), .list (List.replicate j (.int .u8 0) ++ (bytesPV (nB n m)).drop j), .int .i64 (j - 1)] ∧ j ≤ m) (fun ys => ((nth ys 2).I + 1).toNat) ?_ ?_⟩
  · simp [-List.getD_eq_getElem?_getD, c_bigBytes]
    refine ⟨m, ⟨by simp, by rw [List.drop_eq_nil_of_le (by rw [bytesPV_len, nB_len]; omega), List.append_nil], by rw [wrap64 (by omega)]⟩, by omega⟩
  · rintro ys ⟨j, rfl, h1⟩
    refine hW.vc [] _ _ ?_
    simp [-List.getD_eq_getElem?_getD, c_bigBytes]
    rw [bytesPV_len, nB_len]
    refine ⟨fun h2 => ⟨⟨h2, by omega⟩, by omega, ⟨j - 1, ⟨?_, ?_, by rw [wrap64 (by omega)]; omega⟩, by omega⟩, by rw [wrap64 (by omega)]; omega⟩, fun h2 => ?_⟩
    · have e : m - (j - 1) = (m - j) + 1 := by omega
      have := shr8 (n := n / 256 ^ (m - j)) (i := 1) (Int.ediv_nonneg hp1 (Int.pow_nonneg (by omega))) (by omega)
      rw [e, Int.pow_succ, ← Int.ediv_ediv_of_nonneg (Int.pow_nonneg (by omega))]
      simpa using this
    · have h3 : (bytesPV (nB n m)).drop (j - 1) = .int .u8 (byteOf (n / 256 ^ (m - j))).toNat :: (bytesPV (nB n m)).drop j := by
        have h4 := nB_drop (n := n) (show j - 1 < m by omega)
        have e1 : m - 1 - (j - 1) = m - j := by omega
        have e2 : j - 1 + 1 = j := by omega
        rw [e1, e2] at h4
        simp only [bytesPV, ← List.map_drop, h4, List.map_cons]
      have h5 : List.replicate j (PV.int IntKind.u8 0) = List.replicate (j - 1) (PV.int IntKind.u8 0) ++ [PV.int IntKind.u8 0] := by
        have : j = (j - 1) + 1 := by omega
        rw [this, List.replicate_succ']; simp
      rw [h3, wrap8_byte, h5, List.append_assoc, List.set_append_right _ _ (by simp), List.length_replicate, Nat.sub_self]
      rfl
    · have : j = 0 := by omega
      subst this
      simp [pvBytes_bytes]

def c_l02Number : FSpec := ⟨[(.rd, .int .i64), (.rd, .int .i64)], [.list (.int .u8)], true, fun ps => 0 ≤ (nth ps 0).I ∧ 0 ≤ (nth ps 1).I ∧ (nth ps 1).I ≤ 7, fun ps => [.list (bytesPV (nB (nth ps 0).I (nth ps 1).I.toNat))], fun _ => []⟩
def bitI (b : Bool) : Int := if b then 1 else 0
def c_bit : FSpec := ⟨[(.rd, .bool)], [.int .i64], true, fun _ => True, fun ps => [.int .i64 (bitI (nth ps 0).B)], fun _ => []⟩
def c_l01Bit : FSpec := c_bit
def numsB (es : List PV) : List UInt8 := es.flatMap fun e => nB (e.I + 1) 3
theorem numsB_take {es : List PV} {i : Nat} (h : i < es.length) : numsB (es.take (i + 1)) = numsB (es.take i) ++ nB ((nth es i).I + 1) 3 := by
  rw [take_nth h]; simp [numsB]
theorem numsB_len : ∀ (es : List PV), (numsB es).length = 3 * es.length
  | [] => rfl
  | e :: es => by
    have := numsB_len es
    simp only [numsB, List.flatMap_cons, List.length_append, nB_len, List.length_cons] at this ⊢
    omega

def c_l02Numbers : FSpec := ⟨[(.rd, .list (.int .i64))], [.list (.int .u8)], true, fun ps => (nth ps 0).L.length ≤ 1048576 ∧ ∀ e ∈ (nth ps 0).L, -1 ≤ e.I ∧ e.I ≤ 1073741824, fun ps => [.list (bytesPV (numsB (nth ps 0).L))], fun _ => []⟩
def fieldsB (es : List PV) : List UInt8 := byteOf es.length :: es.flatMap fun e => nB e.S.length 2 ++ e.S
theorem fieldsB_take {es : List PV} {i : Nat} (n : Int) (h : i < es.length) : (es.take (i + 1)).flatMap (fun e => nB e.S.length 2 ++ e.S) = (es.take i).flatMap (fun e => nB e.S.length 2 ++ e.S) ++ (nB (nth es i).S.length 2 ++ (nth es i).S) := by
  rw [take_nth h]; simp
theorem flds_len {k : Nat} : ∀ {es : List PV}, (∀ e ∈ es, e.S.length ≤ k) → (es.flatMap fun e => nB e.S.length 2 ++ e.S).length ≤ es.length * (k + 2)
  | [], _ => by simp
  | e :: es, h => by
    have h1 := flds_len (es := es) fun x hx => h x (by simp [hx])
    have h2 := h e (by simp)
    simp only [List.flatMap_cons, List.length_append, nB_len, List.length_cons, Nat.add_mul] at h1 ⊢
    omega

def c_l02Fields : FSpec := ⟨[(.rd, .list .str)], [.list (.int .u8)], true, fun ps => (nth ps 0).L.length ≤ 1000 ∧ ∀ e ∈ (nth ps 0).L, e.S.length ≤ 1048576, fun ps => [.list (bytesPV (fieldsB (nth ps 0).L))], fun _ => []⟩
def eqB (x y : PV) : Bool := x.I == y.I
theorem eqB_refl (es : List PV) : eqL eqB es es = true := eqL_refl fun _ => by simp [eqB]
def c_eqByteS : FSpec := ⟨[(.rd, .list (.int .u8)), (.rd, .list (.int .u8))], [.bool], true, fun _ => True, fun ps => [.bool (eqL eqB (nth ps 0).L (nth ps 1).L)], fun _ => []⟩
/-- Bytes marked. -/
def markB (k : Int) : Nat → List PV
  | 0 => []
  | n + 1 => .int .u8 (byteOf k).toNat :: markB (k + 1) n
theorem markB_len : ∀ (n : Nat) (k : Int), (markB k n).length = n
  | 0, _ => rfl
  | n + 1, k => by simp [markB, markB_len n]
theorem markB_snoc : ∀ (n : Nat) (k : Int), markB k (n + 1) = markB k n ++ [.int .u8 (byteOf (k + n)).toNat]
  | 0, k => by simp [markB]
  | n + 1, k => by
    rw [markB, markB_snoc n (k + 1), markB, List.cons_append]
    have e : k + 1 + (n : Int) = k + ((n + 1 : Nat) : Int) := by omega
    rw [e]
def c_markByteS : FSpec := ⟨[(.mt, .list (.int .u8)), (.rd, .int .i64)], [.int .i64], true, fun ps => 0 ≤ (nth ps 1).I ∧ (nth ps 1).I + (nth ps 0).L.length ≤ 1073741823, fun ps => [.int .i64 ((nth ps 1).I + (nth ps 0).L.length)], fun ps => [.list (markB (nth ps 1).I (nth ps 0).L.length)]⟩
def heldB1 (k : Int) (e : PV) : Bool := e.I == (byteOf k).toNat
theorem heldB_mark (n : Nat) (k : Int) : heldGo heldB1 1 k (markB k n) = k + n := by
  rw [held_marked (m := markB) (fun _ => rfl) (fun k n => ⟨_, rfl, by simp [heldB1, pv_I]⟩), Int.one_mul]
def c_heldByteS : FSpec := ⟨[(.rd, .list (.int .u8)), (.rd, .int .i64)], [.int .i64], true, fun ps => 0 ≤ (nth ps 1).I ∧ (nth ps 1).I + (nth ps 0).L.length ≤ 1073741823, fun ps => [.int .i64 (heldGo heldB1 1 (nth ps 1).I (nth ps 0).L)], fun _ => []⟩
theorem up_get' {w h : Int} : ∀ {es : List PV} {p : Int}, upB w h p es = true → ∀ i, i < es.length → (0 ≤ (nth (nth es i).A 0).I ∧ (nth (nth es i).A 0).I < h) ∧ ((nth (nth es i).A 1).S.length : Int) = 4 * w
  | [], p, hu, i, hi => by simp at hi
  | e :: es, p, hu, 0, hi => by
    simp only [upB, Bool.and_eq_true, inB, decide_eq_true_eq, rowB] at hu
    rw [nth_zero]; omega
  | e :: es, p, hu, i + 1, hi => by
    simp only [upB, Bool.and_eq_true] at hu
    rw [nth_succ]
    exact up_get' hu.2 i (by simpa using hi)
theorem up_all {w h p : Int} {es : List PV} (hu : upB w h p es = true) : ∀ e ∈ es, (0 ≤ (nth e.A 0).I ∧ (nth e.A 0).I < h) ∧ ((nth e.A 1).S.length : Int) = 4 * w := by
  intro e he
  obtain ⟨i, hi, rfl⟩ := List.mem_iff_getElem.1 he
  have := up_get' hu i hi
  rwa [nth_eq hi] at this
theorem vw_facts {n f w h : Int} {u : Bool} {es : List PV} (hv : viewB [.int .i64 n, .int .i64 f, .bool u, .int .i64 w, .int .i64 h, .list es] = true) :
    (0 ≤ n ∧ n ≤ 60 ∧ 0 ≤ f ∧ f ≤ 60 ∧ 2 ≤ w ∧ w ≤ 24 ∧ 2 ≤ h ∧ h ≤ 10 ∧ (es.length : Int) ≤ h) ∧ upB w h (-1) es = true ∧ (u = true → (es.length : Int) = h ∧ f = 0) ∧ (u = false → f < n) := by
  have e1 : inB n 0 60 = true ∧ sizeB w h = true ∧ leB es.length h = true ∧ upB w h (-1) es = true ∧ selB u (f == 0 && (es.length : Int) == h) (inB f 0 (n - 1)) = true := by
    simpa [viewB, nth_zero, nth_succ, pv_I, pv_L, pv_B, and_assoc] using hv
  obtain ⟨h1, h2, h4, h5, h6⟩ := e1
  simp only [inB, sizeB, leB, Bool.and_eq_true, decide_eq_true_eq] at h1 h2 h4
  have h7 : (u = true → (es.length : Int) = h ∧ f = 0) ∧ (u = false → 0 ≤ f ∧ f < n) := by
    cases u
    · simp [selB, inB] at h6 ⊢; omega
    · simp [selB] at h6 ⊢; omega
  refine ⟨?_, h5, h7.1, fun hu => (h7.2 hu).2⟩
  cases u
  · have := h7.2 rfl; omega
  · have := h7.1 rfl; omega

def VW.ls' (v : VW) : List PV := [.int .i64 v.n, .int .i64 v.f, .bool v.u, .int .i64 v.w, .int .i64 v.h, .list v.r]
/-- The encoding of a view. -/
def viewT (v : VW) : List UInt8 := fieldsB (.str (numsB [.int .i64 v.n, .int .i64 v.f, .int .i64 (bitI v.u), .int .i64 v.w, .int .i64 v.h]) :: v.r.map fun e => .str (nB (nth e.A 0).I 1 ++ (nth e.A 1).S))
def c_l11Bytes : FSpec := ⟨[(.rd, .agg [.int .i64, .int .i64, .bool, .int .i64, .int .i64, .list (.agg [.int .i64, .str])])], [.str], true, fun ps => viewB (nth ps 0).A = true, fun ps => [.str (viewT ⟨(nth (nth ps 0).A 0).I, (nth (nth ps 0).A 1).I, (nth (nth ps 0).A 2).B, (nth (nth ps 0).A 3).I, (nth (nth ps 0).A 4).I, (nth (nth ps 0).A 5).L⟩)], fun _ => []⟩
theorem viewT_len {n f w h : Int} {u : Bool} {es : List PV} (hv : viewB [.int .i64 n, .int .i64 f, .bool u, .int .i64 w, .int .i64 h, .list es] = true) : (viewT ⟨n, f, u, w, h, es⟩).length ≤ 1100 := by
  obtain ⟨g1, g2, g3, g4⟩ := vw_facts hv
  unfold viewT fieldsB
  rw [List.length_cons]
  have := flds_len (k := 97) (es := .str (numsB [.int .i64 n, .int .i64 f, .int .i64 (bitI u), .int .i64 w, .int .i64 h]) :: es.map fun e => .str (nB (nth e.A 0).I 1 ++ (nth e.A 1).S)) fun x hx => by
    rcases List.mem_cons.1 hx with rfl | hx
    · rw [pv_S, numsB_len]; simp
    · obtain ⟨e, he, rfl⟩ := List.mem_map.1 hx
      have := (up_all g2 e he).2
      simp only [pv_S, List.length_append, nB_len]; omega
  rw [List.length_cons, List.length_map] at this
  refine Nat.le_trans (Nat.add_le_add_right this 1) ?_
  omega

def viewBytesOf (v : VW) : List PV × Int := if viewB v.ls' = true then (bytesPV (viewT v), 0) else ([], 1)
theorem vbo_a {v : VW} (h : viewB v.ls' = true) : viewBytesOf v = (bytesPV (viewT v), 0) := if_pos h
theorem vbo_b {v : VW} (h : viewB v.ls' = false) : viewBytesOf v = ([], 1) := if_neg (by simp [h])
theorem vbo_len (v : VW) : (viewBytesOf v).1.length ≤ 1100 := by
  cases h : viewB v.ls' with
  | true => rw [vbo_a h, bytesPV_len]; exact viewT_len h
  | false => rw [vbo_b h]; simp

def c_sViewBytes : FSpec := ⟨[(.rd, .agg [.int .i64, .int .i64, .bool, .int .i64, .int .i64, .list (.agg [.int .i64, .str])])], [.list (.int .u8), .int .i64], true, fun _ => True,
  fun ps => [.list (viewBytesOf ⟨(nth (nth ps 0).A 0).I, (nth (nth ps 0).A 1).I, (nth (nth ps 0).A 2).B, (nth (nth ps 0).A 3).I, (nth (nth ps 0).A 4).I, (nth (nth ps 0).A 5).L⟩).1,
    .int .i64 (viewBytesOf ⟨(nth (nth ps 0).A 0).I, (nth (nth ps 0).A 1).I, (nth (nth ps 0).A 2).B, (nth (nth ps 0).A 3).I, (nth (nth ps 0).A 4).I, (nth (nth ps 0).A 5).L⟩).2], fun _ => []⟩
end Go.Proofs.YtolgjekokdimoaaDoor
end

section
namespace Go.Proofs.YtolgjekokdimoaaDoor
open Go.Shelf
def lay_lays105_ren : Go.Shelf.Ren := ⟨fun | 105 => 104 | 212 => 125 | 99 => 126 | 165 => 127 | 166 => 128 | 170 => 129 | 169 => 130 | 263 => 145 | 264 => 146 | 206 => 115 | 240 => 147 | 241 => 148 | 276 => 156 | 277 => 157 | n => n, fun | 9 => 9 | 3 => 3 | 4 => 4 | 20 => 20 | 0 => 0 | 46 => 93 | 109 => 129 | 5 => 5 | 72 => 133 | 76 => 86 | 51 => 102 | 146 => 149 | 53 => 124 | 148 => 151 | 70 => 131 | 37 => 91 | 75 => 85 | 127 => 153 | 164 => 164 | 80 => 136 | n => n, fun | n => n⟩
theorem lay_lays105 : Go.Proofs.Lays.n105 Tryd.prog lay_lays105_ren := {
  mixed := by kernel_rfl
  f99 := Tryd.func126.trans (congrArg some (by kernel_rfl))
  f105 := Tryd.func104.trans (congrArg some (by kernel_rfl))
  f165 := Tryd.func127.trans (congrArg some (by kernel_rfl))
  f166 := Tryd.func128.trans (congrArg some (by kernel_rfl))
  f169 := Tryd.func130.trans (congrArg some (by kernel_rfl))
  f170 := Tryd.func129.trans (congrArg some (by kernel_rfl))
  f206 := Tryd.func115.trans (congrArg some (by kernel_rfl))
  f212 := Tryd.func125.trans (congrArg some (by kernel_rfl))
  f240 := Tryd.func147.trans (congrArg some (by kernel_rfl))
  f241 := Tryd.func148.trans (congrArg some (by kernel_rfl))
  f263 := Tryd.func145.trans (congrArg some (by kernel_rfl))
  f264 := Tryd.func146.trans (congrArg some (by kernel_rfl))
  f276 := Tryd.func156.trans (congrArg some (by kernel_rfl))
  f277 := Tryd.func157.trans (congrArg some (by kernel_rfl))
  t0 := Tryd.underlying0
  a0 := Tryd.isAgg0
  z0 := Tryd.sizeOf0
  v0 := Tryd.zeroValue0
  t3 := Tryd.underlying3
  a3 := Tryd.isAgg3
  z3 := Tryd.sizeOf3
  v3 := Tryd.zeroValue3
  t4 := Tryd.underlying4
  a4 := Tryd.isAgg4
  z4 := Tryd.sizeOf4
  v4 := Tryd.zeroValue4
  t5 := Tryd.underlying5
  a5 := Tryd.isAgg5
  z5 := Tryd.sizeOf5
  v5 := Tryd.zeroValue5
  t9 := Tryd.underlying9
  a9 := Tryd.isAgg9
  z9 := Tryd.sizeOf9
  v9 := Tryd.zeroValue9
  t20 := Tryd.underlying20
  a20 := Tryd.isAgg20
  z20 := Tryd.sizeOf20
  v20 := Tryd.zeroValue20
  t37 := Tryd.underlying91
  a37 := Tryd.isAgg91
  z37 := Tryd.sizeOf91
  v37 := Tryd.zeroValue91
  t46 := Tryd.underlying93
  a46 := Tryd.isAgg93
  z46 := Tryd.sizeOf93
  v46 := Tryd.zeroValue93
  t51 := Tryd.underlying102
  a51 := Tryd.isAgg102
  z51 := Tryd.sizeOf102
  v51 := Tryd.zeroValue102
  t53 := Tryd.underlying124
  a53 := Tryd.isAgg124
  z53 := Tryd.sizeOf124
  v53 := Tryd.zeroValue124
  t70 := Tryd.underlying131
  a70 := Tryd.isAgg131
  z70 := Tryd.sizeOf131
  v70 := Tryd.zeroValue131
  t72 := Tryd.underlying133
  a72 := Tryd.isAgg133
  z72 := Tryd.sizeOf133
  v72 := Tryd.zeroValue133
  t75 := Tryd.underlying85
  a75 := Tryd.isAgg85
  z75 := Tryd.sizeOf85
  v75 := Tryd.zeroValue85
  t76 := Tryd.underlying86
  a76 := Tryd.isAgg86
  z76 := Tryd.sizeOf86
  v76 := Tryd.zeroValue86
  t109 := Tryd.underlying129
  a109 := Tryd.isAgg129
  z109 := Tryd.sizeOf129
  v109 := Tryd.zeroValue129
  t127 := Tryd.underlying153
  a127 := Tryd.isAgg153
  z127 := Tryd.sizeOf153
  v127 := Tryd.zeroValue153
  t146 := Tryd.underlying149
  a146 := Tryd.isAgg149
  z146 := Tryd.sizeOf149
  v146 := Tryd.zeroValue149
  t148 := Tryd.underlying151
  a148 := Tryd.isAgg151
  z148 := Tryd.sizeOf151
  v148 := Tryd.zeroValue151
  t164 := Tryd.underlying164
  a164 := Tryd.isAgg164
  z164 := Tryd.sizeOf164
  v164 := Tryd.zeroValue164 }
theorem lay_Builder_Extra_105 : Builder.Extra Tryd.prog lay_lays105_ren := {
  sizeBuilder := by kernel_rfl
  liesBuilder := by kernel_rfl
  t5 := Tryd.underlying5
  a5 := Tryd.isAgg5
  z5 := Tryd.sizeOf5
  v5 := Tryd.zeroValue5
  infoByte := by kernel_rfl
  cellsByte := by kernel_rfl
  sizeByte := by kernel_rfl
  neB5 := by decide }
open Go.RowKit Go.Lib in
theorem lay_strings_Repeat (s : ByteArray) (c : Nat) (w : World) (hc : c ≤ 9223372036854775807) (hlen : s.size * c ≤ 140737488355328) :
    Calls Tryd.prog 104 #[.string s, .int .i64 c] w fun e w' => e = .returned (.string ⟨(Lib.repeatL s.data.toList c).toArray⟩) ∧ Below w.heap.size w w' := Any.strings_Repeat lay_lays105 lay_Builder_Extra_105 s c w hc hlen
def lay_laysM171_ren : Go.Shelf.Ren := ⟨fun | 171 => 72 | 243 => 88 | 246 => 103 | 283 => 121 | 284 => 122 | 285 => 123 | 286 => 124 | 129 => 141 | 317 => 140 | 318 => 142 | 319 => 143 | 320 => 144 | 337 => 154 | 338 => 155 | n => n, fun | 3 => 3 | 9 => 9 | 2 => 2 | 4 => 4 | 171 => 123 | 0 => 0 | 53 => 124 | 37 => 91 | 5 => 5 | 173 => 127 | 212 => 146 | 51 => 102 | 20 => 20 | 213 => 147 | 46 => 93 | 232 => 167 | 233 => 168 | n => n, fun | 17 => 5 | 18 => 8 | 19 => 9 | n => n⟩
theorem lay_laysM171 : Go.Proofs.LaysM.n171 Tryd.prog lay_laysM171_ren := {
  mixed := by kernel_rfl
  f129 := Tryd.func141.trans (congrArg some (by kernel_rfl))
  f171 := Tryd.func72.trans (congrArg some (by kernel_rfl))
  f243 := Tryd.func88.trans (congrArg some (by kernel_rfl))
  f246 := Tryd.func103.trans (congrArg some (by kernel_rfl))
  f283 := Tryd.func121.trans (congrArg some (by kernel_rfl))
  f284 := Tryd.func122.trans (congrArg some (by kernel_rfl))
  f285 := Tryd.func123.trans (congrArg some (by kernel_rfl))
  f286 := Tryd.func124.trans (congrArg some (by kernel_rfl))
  f317 := Tryd.func140.trans (congrArg some (by kernel_rfl))
  f318 := Tryd.func142.trans (congrArg some (by kernel_rfl))
  f319 := Tryd.func143.trans (congrArg some (by kernel_rfl))
  f320 := Tryd.func144.trans (congrArg some (by kernel_rfl))
  f337 := Tryd.func154.trans (congrArg some (by kernel_rfl))
  f338 := Tryd.func155.trans (congrArg some (by kernel_rfl))
  t0 := Tryd.underlying0
  a0 := Tryd.isAgg0
  z0 := Tryd.sizeOf0
  v0 := Tryd.zeroValue0
  t2 := Tryd.underlying2
  a2 := Tryd.isAgg2
  z2 := Tryd.sizeOf2
  v2 := Tryd.zeroValue2
  t3 := Tryd.underlying3
  a3 := Tryd.isAgg3
  z3 := Tryd.sizeOf3
  v3 := Tryd.zeroValue3
  t4 := Tryd.underlying4
  a4 := Tryd.isAgg4
  z4 := Tryd.sizeOf4
  v4 := Tryd.zeroValue4
  t5 := Tryd.underlying5
  a5 := Tryd.isAgg5
  z5 := Tryd.sizeOf5
  v5 := Tryd.zeroValue5
  t9 := Tryd.underlying9
  a9 := Tryd.isAgg9
  z9 := Tryd.sizeOf9
  v9 := Tryd.zeroValue9
  t20 := Tryd.underlying20
  a20 := Tryd.isAgg20
  z20 := Tryd.sizeOf20
  v20 := Tryd.zeroValue20
  t37 := Tryd.underlying91
  a37 := Tryd.isAgg91
  z37 := Tryd.sizeOf91
  v37 := Tryd.zeroValue91
  t46 := Tryd.underlying93
  a46 := Tryd.isAgg93
  z46 := Tryd.sizeOf93
  v46 := Tryd.zeroValue93
  t51 := Tryd.underlying102
  a51 := Tryd.isAgg102
  z51 := Tryd.sizeOf102
  v51 := Tryd.zeroValue102
  t53 := Tryd.underlying124
  a53 := Tryd.isAgg124
  z53 := Tryd.sizeOf124
  v53 := Tryd.zeroValue124
  t171 := Tryd.underlying123
  a171 := Tryd.isAgg123
  z171 := Tryd.sizeOf123
  v171 := Tryd.zeroValue123
  t173 := Tryd.underlying127
  a173 := Tryd.isAgg127
  z173 := Tryd.sizeOf127
  v173 := Tryd.zeroValue127
  t212 := Tryd.underlying146
  a212 := Tryd.isAgg146
  z212 := Tryd.sizeOf146
  v212 := Tryd.zeroValue146
  t213 := Tryd.underlying147
  a213 := Tryd.isAgg147
  z213 := Tryd.sizeOf147
  t232 := Tryd.underlying167
  a232 := Tryd.isAgg167
  z232 := Tryd.sizeOf167
  v232 := Tryd.zeroValue167
  t233 := Tryd.underlying168
  a233 := Tryd.isAgg168
  z233 := Tryd.sizeOf168
  v233 := Tryd.zeroValue168
  g17 := by kernel_rfl
  g18 := by kernel_rfl
  g19 := by kernel_rfl
  i0 := by kernel_rfl
  i2 := by kernel_rfl
  i3 := by kernel_rfl
  i4 := by kernel_rfl
  i5 := by kernel_rfl
  i9 := by kernel_rfl
  i20 := by kernel_rfl
  i37 := by kernel_rfl
  i46 := by kernel_rfl
  i51 := by kernel_rfl
  i53 := by kernel_rfl
  i171 := by kernel_rfl
  i173 := by kernel_rfl
  i212 := by kernel_rfl
  i232 := by kernel_rfl
  i233 := by kernel_rfl
  m17 := by kernel_rfl
  m18 := by kernel_rfl
  m19 := by kernel_rfl }
open Go.RowKit Go.Sort Go.Lib in
theorem lay_strconv_Itoa (n : Int) (h0 : -9223372036854775808 ≤ n) (h1 : n ≤ 9223372036854775807) (w : World) (htab : Lib.TabIs Tryd.prog w "internal/strconv.uint64pow10" .u64 Lib.pow10Tab) :
    Calls Tryd.prog 72 #[.int .i64 n] w fun e w' => e = .returned (.string ⟨(Lib.itoa n).toArray⟩) ∧ ∃ k os, w' = grow (w.drewN k) os := Any.strconv_Itoa lay_laysM171 n h0 h1 w htab
end Go.Proofs.YtolgjekokdimoaaDoor
end

section
namespace Go.Proofs.YtolgjekokdimoaaDoor
open Go.Shelf Go.RowKit
set_option maxRecDepth 100000
set_option linter.unusedVariables false

theorem ret_str {w : World} {l : List UInt8} (h : l.length ≤ LIM) : RetVs w [.str] [.str l] [.string ⟨l.toArray⟩] [] := by
  have h1 : RetV w .str (.str l) (.string ⟨l.toArray⟩) [] := by
    refine ⟨[[]], ?_, rfl⟩
    first
      | exact .str h .nil
      | (constructor <;> first | exact h | constructor)
  exact .cons h1 .nil
theorem repL (x : UInt8) : ∀ n, Lib.repeatL [x] n = List.replicate n x
  | 0 => rfl
  | n + 1 => by rw [Lib.repeatL, repL x n, List.replicate_succ]; rfl

def c_SRepeat : FSpec := ⟨[(.rd, .str), (.rd, .int .i64)], [.str], true, fun ps => (nth ps 0).S.length = 1 ∧ 0 ≤ (nth ps 1).I ∧ (nth ps 1).I ≤ 64, fun ps => [.str (List.replicate (nth ps 1).I.toNat ((nth ps 0).S.headD 0))], fun _ => []⟩
theorem meets_SRepeat : Meets Tryd.prog 104 c_SRepeat := by
  intro w ps vs fs fl ms hA hnd hdj hpre hgl
  clear hgl
  cases hA with
  | rd h1 hA => cases hA with
  | rd h2 hA =>
  cases hA
  obtain ⟨h1, rfl⟩ := h1
  obtain ⟨h2, rfl⟩ := h2
  cases h1 with | str hl h1 =>
  cases h1
  cases h2 with | int hk h2 =>
  cases h2
  rename_i l k
  obtain ⟨p1, p2, p3⟩ := hpre
  simp only [nth, List.getD_cons_zero, List.getD_cons_succ, PV.S, PV.I] at p1 p2 p3
  obtain ⟨n, rfl⟩ : ∃ n : Nat, k = n := ⟨k.toNat, by omega⟩
  obtain ⟨x, rfl⟩ : ∃ x, l = [x] := by
    match l, p1 with
    | [x], _ => exact ⟨x, rfl⟩
  refine (lay_strings_Repeat ⟨[x].toArray⟩ n w (by omega) (by show [x].toArray.size * n ≤ _; simp; omega)).mono ?_
  rintro e w' ⟨rfl, hB⟩
  refine ⟨[.string ⟨(List.replicate n x).toArray⟩], ?_, ?_, .inl ⟨rfl, [], [], ?_, .rd (.rd .nil), by simp, fun x hx => by simp at hx⟩⟩
  · show Ending.returned (.string ⟨(Lib.repeatL [x] n).toArray⟩) = _
    rw [repL]; rfl
  · exact ⟨hB.os, hB.tape, hB.output, hB.size, fun k hk _ => hB.block k hk⟩
  · show RetVs w' [.str] [.str (List.replicate ((n : Int).toNat) (List.headD [x] 0))] _ _
    rw [Int.toNat_natCast]
    exact ret_str (by simp [LIM]; omega)
theorem k_SRepeat : FnOk Tryd.prog 104 c_SRepeat := ⟨meets_SRepeat, _, Tryd.func104, rfl, by decide⟩

def decS (n : Int) : List UInt8 := Lib.itoa n
theorem decS_len {n : Int} (h : -1 ≤ n) (h2 : n < 1000) : (decS n).length ≤ 3 := by
  have : ∀ k : Fin 1001, (decS ((k.val : Int) - 1)).length ≤ 3 := by decide +kernel
  have := this ⟨(n + 1).toNat, by omega⟩
  rwa [show (((n + 1).toNat : Nat) : Int) - 1 = n by omega] at this
theorem lv_u64 {w : World} : ∀ {zs : List Int} {cs : List Value}, Lv w (flatT (.int .u64) zs.length) (flatP (zs.map (PV.int .u64))) cs [] → cs = zs.map fun z => Value.int .u64 z
  | [], cs, h => by
    cases h; rfl
  | z :: zs, cs, h => by
    have h' : Lv w (.int .u64 :: flatT (.int .u64) zs.length) (.int .u64 z :: flatP (zs.map (PV.int .u64))) cs [] := h
    cases h' with | int _ h2 => rw [lv_u64 h2]; rfl
theorem tab_is {w : World} {X : List Nat} (h : GlOk w X) : Lib.TabIs Tryd.prog w "internal/strconv.uint64pow10" .u64 Lib.pow10Tab := by
  obtain ⟨_, c, t, hc, _, _, hL⟩ := h.dat 5 (.int .u64) G5 rfl
  have e : Tryd.prog.globalNamed "internal/strconv.uint64pow10" = some 5 := by kernel_rfl
  have hL' : Lv w (flatT (.int .u64) Lib.pow10Tab.length) (flatP (Lib.pow10Tab.map (PV.int .u64))) c.toList [] := hL
  have h3 := lv_u64 hL'
  unfold Lib.TabIs World.var?
  rw [e]
  show (match w.heap[5]? with | some (.cells cs _ _) => some cs | _ => none) = _
  rw [hc]
  show some c = _
  rw [← h3]
def c_Itoa : FSpec := ⟨[(.rd, .int .i64)], [.str], true, fun ps => -1 ≤ (nth ps 0).I ∧ (nth ps 0).I < 1000, fun ps => [.str (decS (nth ps 0).I)], fun _ => []⟩
theorem meets_Itoa : Meets Tryd.prog 72 c_Itoa := by
  intro w ps vs fs fl ms hA hnd hdj hpre hgl
  cases hA with
  | rd h1 hA =>
  cases hA
  obtain ⟨h1, rfl⟩ := h1
  cases h1 with | int hk h1 =>
  cases h1
  rename_i n
  obtain ⟨p1, p2⟩ := hpre
  simp only [nth, List.getD_cons_zero, PV.I] at p1 p2
  refine (lay_strconv_Itoa n (by omega) (by omega) w (tab_is hgl)).mono ?_
  rintro e w' ⟨rfl, k, os, rfl⟩
  refine ⟨[.string ⟨(decS n).toArray⟩], rfl, ?_, .inl ⟨rfl, [], [], ret_str (l := decS n) (Nat.le_trans (decS_len p1 p2) (by decide)), .rd .nil, by simp, fun x hx => by simp at hx⟩⟩
  refine ⟨rfl, rfl, rfl, ?_, fun j hj _ => ?_⟩
  · show w.heap.size ≤ (w.heap ++ os).size
    simp
  · show (w.heap ++ os)[j]? = w.heap[j]?
    rw [Array.getElem?_append_left hj]
theorem k_Itoa : FnOk Tryd.prog 72 c_Itoa := ⟨meets_Itoa, _, Tryd.func72, rfl, by decide⟩

end Go.Proofs.YtolgjekokdimoaaDoor
end

section
namespace Go.Proofs.YtolgjekokdimoaaDoor
set_option maxRecDepth 100000
set_option linter.unusedSimpArgs false

/-- Bytes, filled up to whole blocks. -/
def padB (s : List UInt8) : List UInt8 := s ++ ([128] ++ (List.replicate ((119 - s.length % 64) % 64) 0 ++ nB (8 * (s.length : Int)) 8))
def padN (n : Nat) : Nat := (n + 72) / 64
theorem padB_len (s : List UInt8) : (padB s).length = 64 * padN s.length := by
  simp only [padB, List.length_append, List.length_replicate, nB_len, List.length_cons, List.length_nil, padN]
  omega
def blkB (P : List UInt8) (i : Nat) : List UInt8 := (P.drop (64 * i)).take 64
/-- The states behind the first blocks. -/
def shaI (P : List UInt8) : Nat → List PV
  | 0 => G0
  | i + 1 => blkP G1 (shaI P i) (byteF (blkB P i))
theorem shaI_len (P : List UInt8) : ∀ i, (shaI P i).length = 8
  | 0 => rfl
  | i + 1 => blkP_len _ _ _
def U32s (l : List PV) : Prop := ∀ e ∈ l, ∃ n, e = PV.int .u32 n ∧ inR .u32 n
theorem addP_ty (v r : List PV) : ∀ n, U32s (addP v r n)
  | 0 => fun e he => by simp [addP] at he
  | n + 1 => fun e he => by
    rw [addP] at he
    rcases List.mem_append.1 he with h | h
    · exact addP_ty v r n e h
    · rw [List.mem_singleton] at h
      exact ⟨_, h, inR_wrap _ _⟩
theorem shaI_ty (P : List UInt8) : ∀ i, U32s (shaI P i)
  | 0 => fun e he => by
    obtain ⟨n, hn, rfl⟩ := List.mem_map.1 he
    refine ⟨n, rfl, ?_⟩
    have : ∀ n ∈ ([1779033703, 3144134277, 1013904242, 2773480762, 1359893119, 2600822924, 528734635, 1541459225] : List Int), 0 ≤ n ∧ n < 4294967296 := by decide
    have h := this n hn
    simp [inR, IntKind.min, IntKind.max, IntKind.signed, IntKind.bits]
    omega
  | i + 1 => addP_ty _ _ _
theorem shaI_at {P : List UInt8} {i j : Nat} (h : j < 8) : 0 ≤ (nth (shaI P i) j).I ∧ (nth (shaI P i) j).I < 4294967296 := by
  obtain ⟨n, e, h⟩ := shaI_ty P i _ (nth_mem (by rw [shaI_len]; exact h))
  rw [e, pv_I]
  simp [inR, IntKind.min, IntKind.max, IntKind.signed, IntKind.bits] at h
  omega
def outB (st : List PV) : List UInt8 := st.flatMap fun e => nB e.I 4
theorem outB_take {st : List PV} {i : Nat} (h : i < st.length) : outB (st.take (i + 1)) = outB (st.take i) ++ nB (nth st i).I 4 := by
  rw [take_nth h]; simp [outB]
theorem outB_len (st : List PV) : (outB st).length = 4 * st.length := by
  induction st with
  | nil => rfl
  | cons e st ih => simp only [outB, List.flatMap_cons, List.length_append, nB_len, List.length_cons] at ih ⊢; omega
/-- The hash. -/
def shaL (s : List UInt8) : List UInt8 := outB (shaI (padB s) (padN s.length))
theorem shaL_len (s : List UInt8) : (shaL s).length = 32 := by rw [shaL, outB_len, shaI_len]

theorem shr32 {n : Int} {k : Nat} (h : 0 ≤ n) (hk : k ≤ 31) : shrI .u32 n (k : Nat) = n / 2 ^ k := by
  unfold shrI
  have e : min ((k : Int).toNat) IntKind.u32.bits = k := by
    have : IntKind.u32.bits = 32 := rfl
    rw [this, Int.toNat_natCast]; omega
  rw [e, Int.fdiv_eq_ediv_of_nonneg _ (Int.pow_nonneg (by omega))]

theorem shrs {n : Int} (h : 0 ≤ n) : shrI .u32 n 24 = n / 256 ^ 3 ∧ shrI .u32 n 16 = n / 256 ^ 2 ∧ shrI .u32 n 8 = n / 256 := by
  have h1 := shr32 (k := 24) h (by omega)
  have h2 := shr32 (k := 16) h (by omega)
  have h3 := shr32 (k := 8) h (by omega)
  exact ⟨by simpa using h1, by simpa using h2, by simpa using h3⟩
theorem nB4 (n : Int) : nB n 4 = [byteOf (n / 256 ^ 3), byteOf (n / 256 ^ 2), byteOf (n / 256), byteOf n] := by
  simp [nB, List.range_succ]

theorem bytesPV_pv : ∀ {s : List PV}, (∀ e ∈ s, ∃ n, e = PV.int IntKind.u8 n ∧ inR .u8 n) → bytesPV (pvBytes s) = s
  | [], _ => rfl
  | e :: s, h => by
    obtain ⟨n, rfl, hn⟩ := h e (by simp)
    have h2 := bytesPV_pv (s := s) fun x hx => h x (by simp [hx])
    simp [inR, IntKind.min, IntKind.max, IntKind.signed, IntKind.bits] at hn
    simp only [bytesPV, pvBytes, List.map_cons, List.map_map, pv_I] at h2 ⊢
    rw [h2, UInt8.toNat_ofNat', Nat.mod_eq_of_lt (by omega)]
    congr 2
    omega
theorem padZ {n : Nat} (h : n ≤ 1000000000) : (IntKind.i64.wrap (119 - (n : Int).tmod 64)).tmod 64 = (((119 - n % 64) % 64 : Nat) : Int) := by
  have e : (n : Int).tmod 64 = n % 64 := Int.tmod_eq_emod_of_nonneg (by omega)
  rw [e, wrap64 (by omega), Int.tmod_eq_emod_of_nonneg (by omega)]
  omega
theorem byteP_bytes (b : List UInt8) : byteP (bytesPV b) = byteF b := by
  funext k
  simp only [byteP, byteF, nth, bytesPV, List.getElem?_map, List.getD_eq_getElem?_getD]
  cases b[k]? <;> rfl

def c_hash : FSpec := ⟨[(.rd, .str)], [.str], true, fun ps => (nth ps 0).S.length ≤ 1000000000, fun ps => [.str (shaL (nth ps 0).S)], fun _ => []⟩
theorem k_hash : FnOk Tryd.prog 89 c_hash := by
  refine fn_mk [0, 2, 3, 4, 5, 6, 8, 32, 33] [.tmp 2] (env_cons (cs := []) k_hashBlock (env_cons (cs := []) k_bigBytes (env_cons (cs := []) k_SRepeat (env_nil (tyTab_ok []))))) mixed Tryd.func89 rfl (by decide) rfl (by decide) rfl ?_
  intro ps hT hpre W hW
  simp only [c_hash, TyA, Ty, Tys] at hT hpre
  obtain ⟨_, _, rfl, ⟨s, rfl, hs⟩, rfl⟩ := hT
  simp only [nth_zero, pv_S] at hpre
  refine hW.vc [] _ _ ?_
  simp [-List.getD_eq_getElem?_getD, c_hash, c_SRepeat, c_bigBytes, c_hashBlock]
  rw [padZ hpre, wrap64 (n := 8 * (s.length : Int)) (by omega)]
  simp only [Int.toNat_natCast]
  refine ⟨rfl, fun _ => ⟨by omega, ⟨by omega, by omega⟩, by omega, fun _ => ⟨by omega, by rw [nB_len]; omega, ?_⟩⟩⟩
  have e : s ++ 128 :: (List.replicate ((119 - s.length % 64) % 64) 0 ++ nB (8 * (s.length : Int)) 8) = padB s := rfl
  rw [e]
  obtain ⟨P, hP⟩ : ∃ P, P = padB s := ⟨_, rfl⟩
  rw [← hP]
  have hl : P.length = 64 * padN s.length := by rw [hP, padB_len]
  obtain ⟨m, hm⟩ : ∃ m, m = padN s.length := ⟨_, rfl⟩
  rw [← hm] at hl
  refine hW.cutS [_, _] _ _ [.ax 3, .sl 5 .dp .str] (fun ys => ys = [.list (shaI P m), .str []]) ?_ ?_
  · refine hW.loopS _ _ _ [.ax 3, .sl 5 .dp .str] (fun ys => ∃ i : Nat, ys = [.list (shaI P i), .str (P.drop (64 * i))] ∧ i ≤ m) (fun ys => (nth ys 1).S.length) ?_ ?_
    · simp [-List.getD_eq_getElem?_getD, c_hash, c_SRepeat, c_bigBytes, c_hashBlock]
      exact ⟨0, ⟨rfl, rfl⟩, by omega⟩
    · rintro ys ⟨i, rfl, h1⟩
      refine hW.vc [] _ _ ?_
      simp [-List.getD_eq_getElem?_getD, c_hash, c_SRepeat, c_bigBytes, c_hashBlock]
      have h2 := shaI_len P i
      refine ⟨fun h => ⟨by omega, ⟨h2, by omega⟩, by omega, ⟨i + 1, ⟨rfl, ?_⟩, by omega⟩, by omega⟩, fun h => ?_⟩
      · rw [List.take_of_length_le (by rw [List.length_drop]; omega)]; rfl
      · have : i = m := by omega
        subst this
        exact ⟨rfl, by omega⟩
  · rintro ys rfl
    refine hW.vc [] _ _ ?_
    simp [-List.getD_eq_getElem?_getD, c_hash, c_SRepeat, c_bigBytes, c_hashBlock]
    rw [shaI_len]
    refine ⟨rfl, ?_⟩
    refine hW.loopS _ _ _ [.sl 6 .dp .str, .sl 33 .dp (.int .i64)] (fun ys => ∃ i : Nat, ys = [.str (outB ((shaI P m).take i)), .int .i64 i] ∧ i ≤ 8) (fun ys => 8 - (nth ys 1).I.toNat) ?_ ?_
    · simp [-List.getD_eq_getElem?_getD, c_hash, c_SRepeat, c_bigBytes, c_hashBlock]
      exact ⟨0, ⟨rfl, rfl⟩, by omega⟩
    · rintro ys ⟨i, rfl, h1⟩
      refine hW.vc [] _ _ ?_
      simp [-List.getD_eq_getElem?_getD, c_hash, c_SRepeat, c_bigBytes, c_hashBlock]
      have h2 := shaI_len P m
      refine ⟨fun h => ?_, fun h => ?_⟩
      · have e : [(nth (shaI P m) 0).I, (nth (shaI P m) 1).I, (nth (shaI P m) 2).I, (nth (shaI P m) 3).I, (nth (shaI P m) 4).I, (nth (shaI P m) 5).I, (nth (shaI P m) 6).I, (nth (shaI P m) 7).I].getD i 0 = (nth (shaI P m) i).I := by
          have h3 := pv_getD (s8Of (shaI P m)) (i := i) (by omega)
          rw [pv_s8 h2 (shaI_ty P m)] at h3
          exact h3
        have h4 := shaI_at (P := P) (i := m) (j := i) (by omega)
        rw [e, wrap64 (n := (nth (shaI P m) i).I) (by omega), wrap64 (n := (i : Int) + 1) (by omega), outB_len, nB_len, List.length_take]
        exact ⟨h, h4.1, by omega, ⟨i + 1, ⟨(outB_take (by omega)).symm, by omega⟩, by omega⟩, by omega⟩
      · rw [List.take_of_length_le (by omega), shaL, ← hP, ← hm]

def c_l01Hash : FSpec := ⟨[(.rd, .list (.int .u8))], [.str], true, fun ps => (nth ps 0).L.length ≤ 1000000000, fun ps => [.str (shaL (pvBytes (nth ps 0).L))], fun _ => []⟩
theorem k_l01Hash : FnOk Tryd.prog 87 c_l01Hash := by
  refine fn_mk [0, 2, 3, 4, 5, 6, 7, 8, 9] [.tmp 2] (env_cons (cs := []) k_l01Block (env_cons (cs := []) k_l01Consts (env_nil (tyTab_ok [])))) mixed Tryd.func87 rfl (by decide) rfl (by decide) rfl ?_
  intro ps hT hpre W hW
  simp only [c_l01Hash, TyA, Ty, Tys] at hT hpre
  obtain ⟨_, _, rfl, ⟨s, rfl, hs, ts⟩, rfl⟩ := hT
  simp only [nth_zero, pv_L] at hpre
  obtain ⟨b, hb⟩ : ∃ b, b = pvBytes s := ⟨_, rfl⟩
  have hbs : s = bytesPV b := by rw [hb, bytesPV_pv ts]
  subst hbs
  rw [bytesPV_len] at hpre
  refine hW.vc [(18, [25], .take 0 <| .take 1 <| .take 2 <| .take 3 <| .take 4 <| .take 5 <| .take 6 <| .take 7 <| .take 8 <| .take 9 <| .take 10 <| .take 11 <| .take 12 <| .take 13 <| .take 14 <| .take 15 <| .take 16 <| .take 17 <| .take 18 <| .take 19 <| .take 20 <| .take 21 <| .take 22 <| .take 23 <| .alt 24 (.alt 25 (.alt 26 (.done) .stop) .stop) .stop)] _ _ ?_
  simp [-List.getD_eq_getElem?_getD, c_l01Hash, c_l01Consts, c_l01Block]
  rw [bytesPV_len]
  refine ⟨by decide, by omega, by omega, fun _ => ?_⟩
  refine hW.cutS [_, _] _ _ [.sl 4 .dp (.list (.int .u8))] (fun ys => ys = [.list (bytesPV (b ++ ([128] ++ List.replicate ((119 - b.length % 64) % 64) 0)))]) ?_ ?_
  · refine hW.loopS _ _ _ [.sl 4 .dp (.list (.int .u8))] (fun ys => ∃ i : Nat, ys = [.list (bytesPV (b ++ ([128] ++ List.replicate i 0)))] ∧ i ≤ (119 - b.length % 64) % 64) (fun ys => b.length + 1 + 64 - (nth ys 0).L.length) ?_ ?_
    · simp [-List.getD_eq_getElem?_getD, c_l01Hash, c_l01Consts, c_l01Block]
      exact ⟨0, by rw [bytesPV_app]; rfl, by omega⟩
    · rintro ys ⟨i, rfl, h1⟩
      refine hW.vc [(18, [25], .take 0 <| .take 1 <| .take 2 <| .take 3 <| .take 4 <| .take 5 <| .take 6 <| .take 7 <| .take 8 <| .take 9 <| .take 10 <| .take 11 <| .take 12 <| .take 13 <| .take 14 <| .take 15 <| .take 16 <| .take 17 <| .take 18 <| .take 19 <| .take 20 <| .take 21 <| .take 22 <| .take 23 <| .alt 24 (.alt 25 (.alt 26 (.done) .stop) .stop) .stop)] _ _ ?_
      simp [-List.getD_eq_getElem?_getD, c_l01Hash, c_l01Consts, c_l01Block]
      have hlen : (bytesPV (b ++ 128 :: List.replicate i 0)).length = b.length + 1 + i := by
        rw [bytesPV_len]; simp; omega
      rw [hlen, Int.tmod_eq_emod_of_nonneg (by omega)]
      refine fun _ => ⟨fun h2 => ⟨by omega, fun _ => ⟨⟨i + 1, ?_, by omega⟩, by omega⟩⟩, fun h2 => ?_⟩
      · rw [List.replicate_succ', ← List.cons_append, ← List.append_assoc, bytesPV_app (_ ++ _)]; rfl
      · have : i = (119 - b.length % 64) % 64 := by omega
        rw [← this]
  · rintro ys rfl
    refine hW.vc [(18, [25], .take 0 <| .take 1 <| .take 2 <| .take 3 <| .take 4 <| .take 5 <| .take 6 <| .take 7 <| .take 8 <| .take 9 <| .take 10 <| .take 11 <| .take 12 <| .take 13 <| .take 14 <| .take 15 <| .take 16 <| .take 17 <| .take 18 <| .take 19 <| .take 20 <| .take 21 <| .take 22 <| .take 23 <| .alt 24 (.alt 25 (.alt 26 (.done) .stop) .stop) .stop)] _ _ ?_
    simp [-List.getD_eq_getElem?_getD, c_l01Hash, c_l01Consts, c_l01Block]
    obtain ⟨Q, hQ⟩ : ∃ Q, Q = b ++ 128 :: List.replicate ((119 - b.length % 64) % 64) 0 := ⟨_, rfl⟩
    rw [← hQ]
    have hP : padB b = Q ++ nB (8 * (b.length : Int)) 8 := by rw [hQ, padB]; simp
    have hl := padB_len b
    have hQl : Q.length + 8 = 64 * padN b.length := by rw [← hl, hP]; simp [nB_len]
    refine hW.cutS [_, _] _ _ [.sl 4 .dp (.list (.int .u8)), .sl 5 .dp (.int .i64)] (fun ys => ys = [.list (bytesPV (padB b)), .int .i64 (-1)]) ?_ ?_
    · refine hW.loopS _ _ _ [.sl 4 .dp (.list (.int .u8)), .sl 5 .dp (.int .i64)] (fun ys => ∃ j : Nat, ys = [.list (bytesPV (Q ++ (nB (8 * (b.length : Int)) 8).take (8 - j))), .int .i64 (j - 1)] ∧ j ≤ 8) (fun ys => ((nth ys 1).I + 1).toNat) ?_ ?_
      · simp [-List.getD_eq_getElem?_getD, c_l01Hash, c_l01Consts, c_l01Block]
        exact ⟨8, ⟨by simp, by omega⟩, by omega⟩
      · rintro ys ⟨j, rfl, h1⟩
        refine hW.vc [(18, [25], .take 0 <| .take 1 <| .take 2 <| .take 3 <| .take 4 <| .take 5 <| .take 6 <| .take 7 <| .take 8 <| .take 9 <| .take 10 <| .take 11 <| .take 12 <| .take 13 <| .take 14 <| .take 15 <| .take 16 <| .take 17 <| .take 18 <| .take 19 <| .take 20 <| .take 21 <| .take 22 <| .take 23 <| .alt 24 (.alt 25 (.alt 26 (.done) .stop) .stop) .stop)] _ _ ?_
        simp [-List.getD_eq_getElem?_getD, c_l01Hash, c_l01Consts, c_l01Block]
        refine ⟨fun h2 _ => ?_, fun h2 => ?_⟩
        · have e0 : (8 * ((j : Int) - 1)) = ((8 * (j - 1) : Nat) : Int) := by omega
          have e1 : IntKind.u64.wrap (IntKind.i64.wrap (8 * ((j : Int) - 1))) = ((8 * (j - 1) : Nat) : Int) := by
            rw [wrap64 (by omega), e0]
            simp [IntKind.wrap, IntKind.signed, IntKind.bits]; omega
          rw [e1, bytesPV_len b, wrap64 (n := 8 * (b.length : Int)) (by omega), shr8 (by omega) (by omega), wrap8_byte, wrap64 (n := (j : Int) - 1 - 1) (by omega), bytesPV_len, List.length_append, List.length_take, nB_len]
          have hpn : 64 * padN b.length ≤ 1000000072 := by rw [padN]; omega
          refine ⟨by omega, by omega, fun _ => ⟨⟨j - 1, ⟨?_, by omega⟩, by omega⟩, by omega⟩⟩
          have h4 := nB_take (n := 8 * (b.length : Int)) (show 8 - j < 8 by omega)
          have e2 : 8 - 1 - (8 - j) = j - 1 := by omega
          have e3 : 8 - j + 1 = 8 - (j - 1) := by omega
          rw [e2, e3] at h4
          rw [h4, ← List.append_assoc, bytesPV_app (_ ++ _), bytesPV_one]
        · have : j = 0 := by omega
          subst this
          exact ⟨by rw [hP, List.take_of_length_le (by rw [nB_len]; omega)], by omega⟩
    · rintro ys rfl
      refine hW.vc [(18, [25], .take 0 <| .take 1 <| .take 2 <| .take 3 <| .take 4 <| .take 5 <| .take 6 <| .take 7 <| .take 8 <| .take 9 <| .take 10 <| .take 11 <| .take 12 <| .take 13 <| .take 14 <| .take 15 <| .take 16 <| .take 17 <| .take 18 <| .take 19 <| .take 20 <| .take 21 <| .take 22 <| .take 23 <| .alt 24 (.alt 25 (.alt 26 (.done) .stop) .stop) .stop)] _ _ ?_
      simp [-List.getD_eq_getElem?_getD, c_l01Hash, c_l01Consts, c_l01Block]
      obtain ⟨P, hPP⟩ : ∃ P, P = padB b := ⟨_, rfl⟩
      rw [← hPP] at hl
      obtain ⟨m, hm⟩ : ∃ m, m = padN b.length := ⟨_, rfl⟩
      rw [← hm] at hl
      rw [← hPP]
      refine hW.cutS [_, _] _ _ [.ar 3 (.int .u32), .sl 7 .dp (.int .i64)] (fun ys => ys = [.list (shaI P m), .int .i64 (64 * m)]) ?_ ?_
      · refine hW.loopS _ _ _ [.ar 3 (.int .u32), .sl 7 .dp (.int .i64)] (fun ys => ∃ i : Nat, ys = [.list (shaI P i), .int .i64 (64 * i)] ∧ i ≤ m) (fun ys => (64 * m - (nth ys 1).I.toNat)) ?_ ?_
        · simp [-List.getD_eq_getElem?_getD, c_l01Hash, c_l01Consts, c_l01Block]
          exact ⟨0, ⟨rfl, rfl⟩, by omega⟩
        · rintro ys ⟨i, rfl, h1⟩
          refine hW.vc [(18, [25], .take 0 <| .take 1 <| .take 2 <| .take 3 <| .take 4 <| .take 5 <| .take 6 <| .take 7 <| .take 8 <| .take 9 <| .take 10 <| .take 11 <| .take 12 <| .take 13 <| .take 14 <| .take 15 <| .take 16 <| .take 17 <| .take 18 <| .take 19 <| .take 20 <| .take 21 <| .take 22 <| .take 23 <| .alt 24 (.alt 25 (.alt 26 (.done) .stop) .stop) .stop)] _ _ ?_
          simp [-List.getD_eq_getElem?_getD, c_l01Hash, c_l01Consts, c_l01Block]
          have hmb : 64 * m ≤ 1000000072 := by rw [hm, padN]; omega
          have h2 := shaI_len P i
          rw [bytesPV_len, wrap64 (n := 64 * (i : Int) + 64) (by omega)]
          refine fun _ => ⟨fun h3 => ⟨⟨by omega, by omega, by omega⟩, fun _ => ⟨⟨h2, by omega⟩, ⟨i + 1, ⟨?_, by omega⟩, by omega⟩, by omega⟩⟩, fun h3 => ?_⟩
          · have a1 : (64 * (i : Int) + 64).toNat - (64 * (i : Int)).toNat = 64 := by omega
            have a2 : (64 * (i : Int)).toNat = 64 * i := by omega
            have a3 : List.take 64 (List.drop (64 * i) (bytesPV P)) = bytesPV (blkB P i) := by simp [bytesPV, blkB, List.map_take, List.map_drop]
            rw [a1, a2, a3, byteP_bytes]
            rfl
          · have : i = m := by omega
            subst this
            exact ⟨rfl, rfl⟩
      · rintro ys rfl
        refine hW.vc [(18, [25], .take 0 <| .take 1 <| .take 2 <| .take 3 <| .take 4 <| .take 5 <| .take 6 <| .take 7 <| .take 8 <| .take 9 <| .take 10 <| .take 11 <| .take 12 <| .take 13 <| .take 14 <| .take 15 <| .take 16 <| .take 17 <| .take 18 <| .take 19 <| .take 20 <| .take 21 <| .take 22 <| .take 23 <| .alt 24 (.alt 25 (.alt 26 (.done) .stop) .stop) .stop)] _ _ ?_
        simp [-List.getD_eq_getElem?_getD, c_l01Hash, c_l01Consts, c_l01Block]
        refine hW.loopS _ _ _ [.sl 8 .dp (.list (.int .u8)), .sl 9 .dp (.int .i64)] (fun ys => ∃ i : Nat, ys = [.list (bytesPV (outB ((shaI P m).take i))), .int .i64 i] ∧ i ≤ 8) (fun ys => 8 - (nth ys 1).I.toNat) ?_ ?_
        · simp [-List.getD_eq_getElem?_getD, c_l01Hash, c_l01Consts, c_l01Block]
          exact ⟨0, ⟨rfl, rfl⟩, by omega⟩
        · rintro ys ⟨i, rfl, h1⟩
          refine hW.vc [(18, [25], .take 0 <| .take 1 <| .take 2 <| .take 3 <| .take 4 <| .take 5 <| .take 6 <| .take 7 <| .take 8 <| .take 9 <| .take 10 <| .take 11 <| .take 12 <| .take 13 <| .take 14 <| .take 15 <| .take 16 <| .take 17 <| .take 18 <| .take 19 <| .take 20 <| .take 21 <| .take 22 <| .take 23 <| .alt 24 (.alt 25 (.alt 26 (.done) .stop) .stop) .stop)] _ _ ?_
          simp [-List.getD_eq_getElem?_getD, c_l01Hash, c_l01Consts, c_l01Block]
          have h2 := shaI_len P m
          refine ⟨fun h => ?_, fun h => ?_⟩
          · have h4 := shaI_at (P := P) (i := m) (j := i) (by omega)
            rw [wrap64 (n := (i : Int) + 1) (by omega), bytesPV_len, outB_len, List.length_take, (shrs h4.1).1, (shrs h4.1).2.1, (shrs h4.1).2.2, wrap8_byte, wrap8_byte, wrap8_byte, wrap8_byte]
            exact ⟨by decide +kernel, by omega, fun _ => ⟨by omega, fun _ => ⟨by omega, fun _ => ⟨by omega, fun _ => ⟨by decide, by omega, fun _ => ⟨⟨i + 1, ⟨by rw [outB_take (by omega), bytesPV_app, nB4]; rfl, by omega⟩, by omega⟩, by omega⟩⟩⟩⟩⟩⟩
          · rw [List.take_of_length_le (by omega), pvBytes_bytes, pvBytes_bytes, shaL, ← hPP, ← hm]

end Go.Proofs.YtolgjekokdimoaaDoor
end

section
namespace Go.Proofs.YtolgjekokdimoaaDoor
set_option maxRecDepth 100000
set_option linter.unusedSimpArgs false

def keyB (k : List UInt8) : List UInt8 := if 64 < k.length then shaL k else k
/-- A key's first bytes, masked. -/
def mskP (k : List UInt8) (m : Int) : Nat → List PV
  | 0 => []
  | i + 1 => mskP k m i ++ [.int .u8 (xorI .u8 (byteF k i) m)]
theorem mskP_len (k : List UInt8) (m : Int) : ∀ i, (mskP k m i).length = i
  | 0 => rfl
  | i + 1 => by rw [mskP, List.length_append, mskP_len k m i]; rfl
def hmacL (key msg : List UInt8) : List UInt8 := shaL (pvBytes (mskP (keyB key) 92 64) ++ shaL (pvBytes (mskP (keyB key) 54 64) ++ msg))
theorem hmacL_len (key msg : List UInt8) : (hmacL key msg).length = 32 := shaL_len _
theorem pvBytes_app (l m : List PV) : pvBytes (l ++ m) = pvBytes l ++ pvBytes m := by simp [pvBytes]
theorem pvBytes_len (l : List PV) : (pvBytes l).length = l.length := by simp [pvBytes]
theorem byteF_in {k : List UInt8} {i : Nat} (h : ¬ i < k.length) : byteF k i = 0 := by
  simp [byteF, List.getD_eq_getElem?_getD, List.getElem?_eq_none (by omega : k.length ≤ i)]

theorem msk_step {k : List UInt8} {m x : Int} {i : Nat} (h : i < 64) (hx : x = byteF k i) : (mskP k m i ++ List.replicate (64 - i) (PV.int IntKind.u8 0)).set i (PV.int .u8 (xorI .u8 x m)) = mskP k m (i + 1) ++ List.replicate (64 - (i + 1)) (PV.int IntKind.u8 0) := by
  subst hx
  rw [set_at (mskP_len k m i) h]; rfl

def c_hmac : FSpec := ⟨[(.rd, .str), (.rd, .str)], [.str], true, fun ps => (nth ps 0).S.length ≤ 1000000 ∧ (nth ps 1).S.length ≤ 1000000, fun ps => [.str (hmacL (nth ps 0).S (nth ps 1).S)], fun _ => []⟩
theorem k_hmac : FnOk Tryd.prog 74 c_hmac := by
  refine fn_mk [0, 1, 4, 5, 6, 7, 8, 16] [.tmp 4] (env_cons (cs := []) k_hash (env_nil (tyTab_ok []))) mixed Tryd.func74 rfl (by decide) rfl (by decide) rfl ?_
  intro ps hT hpre W hW
  simp only [c_hmac, TyA, Ty, Tys] at hT hpre
  obtain ⟨_, _, rfl, ⟨key, rfl, hkey⟩, _, _, rfl, ⟨msg, rfl, hmsg⟩, rfl⟩ := hT
  simp only [nth_zero, nth_succ, pv_S] at hpre
  obtain ⟨p1, p2⟩ := hpre
  refine hW.vc [(3, [], .alt 0 (.alt 1 (.alt 2 (.alt 3 (.done) .stop) .stop) (.alt 2 (.alt 1 (.alt 3 (.done) .stop) .stop) .stop)) (.alt 1 (.alt 0 (.alt 2 (.alt 3 (.done) .stop) .stop) .stop) .stop)), (12, [], .take 0 <| .take 1 <| .take 2 <| .take 3 <| .take 4 <| .take 5 <| .alt 6 (.take 7 <| .alt 8 (.alt 9 (.done) .stop) .stop) .stop)] _ _ ?_
  simp [-List.reduceReplicate, -List.getD_eq_getElem?_getD, c_hmac, c_hash]
  obtain ⟨k, hk0⟩ : ∃ k, k = keyB key := ⟨_, rfl⟩
  refine fun _ => ⟨fun hk => ⟨by omega, by decide +kernel, ?_⟩, fun hk => ⟨by decide +kernel, ?_⟩⟩
  · rw [show shaL key = k by rw [hk0, keyB, if_pos (by omega)]]
    refine ⟨?_, ?_⟩
    all_goals
      refine hW.loopS _ _ _ [.ar 5 (.int .u8), .ar 6 (.int .u8), .sl 16 .dp (.int .i64)] (fun ys => ∃ i : Nat, ys = [.list (mskP k 54 i ++ List.replicate (64 - i) (.int .u8 0)), .list (mskP k 92 i ++ List.replicate (64 - i) (.int .u8 0)), .int .i64 i] ∧ i ≤ 64) (fun ys => 64 - (nth ys 2).I.toNat) ?_ ?_
      · simp [-List.reduceReplicate, -List.getD_eq_getElem?_getD, c_hmac, c_hash]
        exact ⟨0, ⟨rfl, rfl, rfl⟩, by omega⟩
      · rintro ys ⟨i, rfl, h1⟩
        refine hW.vc [(3, [], .alt 0 (.alt 1 (.alt 2 (.alt 3 (.done) .stop) .stop) (.alt 2 (.alt 1 (.alt 3 (.done) .stop) .stop) .stop)) (.alt 1 (.alt 0 (.alt 2 (.alt 3 (.done) .stop) .stop) .stop) .stop)), (12, [], .take 0 <| .take 1 <| .take 2 <| .take 3 <| .take 4 <| .take 5 <| .alt 6 (.take 7 <| .alt 8 (.alt 9 (.done) .stop) .stop) .stop)] _ _ ?_
        simp [-List.reduceReplicate, -List.getD_eq_getElem?_getD, c_hmac, c_hash]
        have hk1 := mskP_len k 54 i
        have hk2 := mskP_len k 92 i
        have l1 : (pvBytes (mskP k 54 64)).length = 64 := by rw [pvBytes_len, mskP_len]
        have l2 : (pvBytes (mskP k 92 64)).length = 64 := by rw [pvBytes_len, mskP_len]
        rw [wrap64 (n := (i : Int) + 1) (by omega), hk1, hk2]
        refine ⟨fun h2 _ => ⟨fun h3 => ⟨h3, by omega, by omega, by omega, by omega, ⟨i + 1, ⟨msk_step (by omega) rfl, msk_step (by omega) rfl, by omega⟩, by omega⟩, by omega⟩, fun h3 => ⟨by omega, by omega, by omega, by omega, ⟨i + 1, ⟨msk_step (by omega) (byteF_in (by omega)).symm, msk_step (by omega) (byteF_in (by omega)).symm, by omega⟩, by omega⟩, by omega⟩⟩, fun h2 => ?_⟩
        have : i = 64 := by omega
        subst this
        rw [Nat.sub_self, List.replicate_zero, List.append_nil, List.append_nil]
        refine ⟨by decide +kernel, by omega, by omega, by rw [shaL_len]; omega, by rw [shaL_len]; omega, ?_⟩
        rw [hmacL, ← hk0]
  · rw [show key = k by rw [hk0, keyB, if_neg (by omega)]]
    refine ⟨?_, ?_⟩
    all_goals
      refine hW.loopS _ _ _ [.ar 5 (.int .u8), .ar 6 (.int .u8), .sl 16 .dp (.int .i64)] (fun ys => ∃ i : Nat, ys = [.list (mskP k 54 i ++ List.replicate (64 - i) (.int .u8 0)), .list (mskP k 92 i ++ List.replicate (64 - i) (.int .u8 0)), .int .i64 i] ∧ i ≤ 64) (fun ys => 64 - (nth ys 2).I.toNat) ?_ ?_
      · simp [-List.reduceReplicate, -List.getD_eq_getElem?_getD, c_hmac, c_hash]
        exact ⟨0, ⟨rfl, rfl, rfl⟩, by omega⟩
      · rintro ys ⟨i, rfl, h1⟩
        refine hW.vc [(3, [], .alt 0 (.alt 1 (.alt 2 (.alt 3 (.done) .stop) .stop) (.alt 2 (.alt 1 (.alt 3 (.done) .stop) .stop) .stop)) (.alt 1 (.alt 0 (.alt 2 (.alt 3 (.done) .stop) .stop) .stop) .stop)), (12, [], .take 0 <| .take 1 <| .take 2 <| .take 3 <| .take 4 <| .take 5 <| .alt 6 (.take 7 <| .alt 8 (.alt 9 (.done) .stop) .stop) .stop)] _ _ ?_
        simp [-List.reduceReplicate, -List.getD_eq_getElem?_getD, c_hmac, c_hash]
        have hk1 := mskP_len k 54 i
        have hk2 := mskP_len k 92 i
        have l1 : (pvBytes (mskP k 54 64)).length = 64 := by rw [pvBytes_len, mskP_len]
        have l2 : (pvBytes (mskP k 92 64)).length = 64 := by rw [pvBytes_len, mskP_len]
        rw [wrap64 (n := (i : Int) + 1) (by omega), hk1, hk2]
        refine ⟨fun h2 _ => ⟨fun h3 => ⟨h3, by omega, by omega, by omega, by omega, ⟨i + 1, ⟨msk_step (by omega) rfl, msk_step (by omega) rfl, by omega⟩, by omega⟩, by omega⟩, fun h3 => ⟨by omega, by omega, by omega, by omega, ⟨i + 1, ⟨msk_step (by omega) (byteF_in (by omega)).symm, msk_step (by omega) (byteF_in (by omega)).symm, by omega⟩, by omega⟩, by omega⟩⟩, fun h2 => ?_⟩
        have : i = 64 := by omega
        subst this
        rw [Nat.sub_self, List.replicate_zero, List.append_nil, List.append_nil]
        refine ⟨by decide +kernel, by omega, by omega, by rw [shaL_len]; omega, by rw [shaL_len]; omega, ?_⟩
        rw [hmacL, ← hk0]

def c_l02Hmac : FSpec := c_hmac
theorem k_l02Hmac : FnOk Tryd.prog 69 c_l02Hmac := by
  refine fn_mk [0, 1, 4, 5, 6, 7, 8] [.tmp 4] (env_cons (cs := []) k_l01Hash (env_nil (tyTab_ok []))) mixed Tryd.func69 rfl (by decide) rfl (by decide) rfl ?_
  intro ps hT hpre W hW
  simp only [c_l02Hmac, TyA, Ty, Tys] at hT hpre
  simp only [c_hmac, TyA, Ty, Tys] at hT hpre
  obtain ⟨_, _, rfl, ⟨key, rfl, hkey⟩, _, _, rfl, ⟨msg, rfl, hmsg⟩, rfl⟩ := hT
  simp only [nth_zero, nth_succ, pv_S] at hpre
  obtain ⟨p1, p2⟩ := hpre
  refine hW.vc [] _ _ ?_
  simp [-List.reduceReplicate, -List.getD_eq_getElem?_getD, c_l02Hmac, c_l01Hash, c_hmac]
  obtain ⟨k, hk0⟩ : ∃ k, k = keyB key := ⟨_, rfl⟩
  rw [bytesPV_len, pvBytes_bytes]
  refine fun _ => ⟨fun hk => ⟨by omega, ?_⟩, fun hk => ?_⟩
  · rw [show shaL key = k by rw [hk0, keyB, if_pos (by omega)]]
    · refine hW.loopS _ _ _ [.ar 5 (.int .u8), .ar 6 (.int .u8), .sl 7 .dp (.int .i64)] (fun ys => ∃ i : Nat, ys = [.list (mskP k 54 i ++ List.replicate (64 - i) (.int .u8 0)), .list (mskP k 92 i ++ List.replicate (64 - i) (.int .u8 0)), .int .i64 i] ∧ i ≤ 64) (fun ys => 64 - (nth ys 2).I.toNat) ?_ ?_
      · simp [-List.reduceReplicate, -List.getD_eq_getElem?_getD, c_l02Hmac, c_l01Hash, c_hmac]
        exact ⟨0, ⟨rfl, rfl, rfl⟩, by omega⟩
      · rintro ys ⟨i, rfl, h1⟩
        refine hW.vc [] _ _ ?_
        simp [-List.reduceReplicate, -List.getD_eq_getElem?_getD, c_l02Hmac, c_l01Hash, c_hmac]
        have hk1 := mskP_len k 54 i
        have hk2 := mskP_len k 92 i
        have l1 : (pvBytes (mskP k 54 64)).length = 64 := by rw [pvBytes_len, mskP_len]
        have l2 : (pvBytes (mskP k 92 64)).length = 64 := by rw [pvBytes_len, mskP_len]
        rw [wrap64 (n := (i : Int) + 1) (by omega), hk1, hk2]
        refine ⟨fun h2 _ => ⟨fun h3 => ⟨h3, by omega, by omega, by omega, by omega, ⟨i + 1, ⟨msk_step (by omega) rfl, msk_step (by omega) rfl, by omega⟩, by omega⟩, by omega⟩, fun h3 => ⟨by omega, by omega, by omega, by omega, ⟨i + 1, ⟨msk_step (by omega) (byteF_in (by omega)).symm, msk_step (by omega) (byteF_in (by omega)).symm, by omega⟩, by omega⟩, by omega⟩⟩, fun h2 => ?_⟩
        have : i = 64 := by omega
        subst this
        simp only [Nat.sub_self, List.replicate_zero, List.nil_append, Nat.add_zero, Nat.zero_add, pvBytes_app, pvBytes_bytes, bytesPV_len, shaL_len]
        refine ⟨by omega, fun _ => ⟨by omega, by omega, fun _ => ⟨by omega, ?_⟩⟩⟩
        rw [hmacL, ← hk0]
  · rw [show key = k by rw [hk0, keyB, if_neg (by omega)]]
    · refine hW.loopS _ _ _ [.ar 5 (.int .u8), .ar 6 (.int .u8), .sl 7 .dp (.int .i64)] (fun ys => ∃ i : Nat, ys = [.list (mskP k 54 i ++ List.replicate (64 - i) (.int .u8 0)), .list (mskP k 92 i ++ List.replicate (64 - i) (.int .u8 0)), .int .i64 i] ∧ i ≤ 64) (fun ys => 64 - (nth ys 2).I.toNat) ?_ ?_
      · simp [-List.reduceReplicate, -List.getD_eq_getElem?_getD, c_l02Hmac, c_l01Hash, c_hmac]
        exact ⟨0, ⟨rfl, rfl, rfl⟩, by omega⟩
      · rintro ys ⟨i, rfl, h1⟩
        refine hW.vc [] _ _ ?_
        simp [-List.reduceReplicate, -List.getD_eq_getElem?_getD, c_l02Hmac, c_l01Hash, c_hmac]
        have hk1 := mskP_len k 54 i
        have hk2 := mskP_len k 92 i
        have l1 : (pvBytes (mskP k 54 64)).length = 64 := by rw [pvBytes_len, mskP_len]
        have l2 : (pvBytes (mskP k 92 64)).length = 64 := by rw [pvBytes_len, mskP_len]
        rw [wrap64 (n := (i : Int) + 1) (by omega), hk1, hk2]
        refine ⟨fun h2 _ => ⟨fun h3 => ⟨h3, by omega, by omega, by omega, by omega, ⟨i + 1, ⟨msk_step (by omega) rfl, msk_step (by omega) rfl, by omega⟩, by omega⟩, by omega⟩, fun h3 => ⟨by omega, by omega, by omega, by omega, ⟨i + 1, ⟨msk_step (by omega) (byteF_in (by omega)).symm, msk_step (by omega) (byteF_in (by omega)).symm, by omega⟩, by omega⟩, by omega⟩⟩, fun h2 => ?_⟩
        have : i = 64 := by omega
        subst this
        simp only [Nat.sub_self, List.replicate_zero, List.nil_append, Nat.add_zero, Nat.zero_add, pvBytes_app, pvBytes_bytes, bytesPV_len, shaL_len]
        refine ⟨by omega, fun _ => ⟨by omega, by omega, fun _ => ⟨by omega, ?_⟩⟩⟩
        rw [hmacL, ← hk0]

end Go.Proofs.YtolgjekokdimoaaDoor
end

section
namespace Go.Proofs.YtolgjekokdimoaaDoor
set_option maxRecDepth 100000
set_option linter.unusedSimpArgs false

def letC (c : Int) : Bool := inB c 97 122 || inB c 65 90 || c == 95
def digC (c : Int) : Bool := inB c 48 57
def namI : Bool → List UInt8 → Bool
  | _, [] => true
  | f, c :: l => (letC c.toNat || (!f && digC c.toNat)) && namI false l
def nameB (t : List UInt8) : Bool := namI true t && inB t.length 1 40

def c_isName : FSpec := ⟨[(.rd, .str)], [.bool], true, fun _ => True, fun ps => [.bool (nameB (nth ps 0).S)], fun _ => []⟩
theorem k_isName : FnOk Tryd.prog 71 c_isName := by
  refine fn_mk [0, 2, 3, 4, 5, 7, 8] [.tmp 2] (env_cons (cs := []) k_within (env_nil (tyTab_ok []))) mixed Tryd.func71 rfl (by decide) rfl (by decide) rfl ?_
  intro ps hT hpre W hW
  simp only [c_isName, TyA, Ty, Tys] at hT hpre
  obtain ⟨_, _, rfl, ⟨t, rfl, ht⟩, rfl⟩ := hT
  refine hW.vc [] _ _ ?_
  simp [-List.getD_eq_getElem?_getD, c_isName, c_within]
  refine fun _ => hW.loopS _ _ _ [.sl 8 .dp (.int .i64)] (fun ys => ∃ i : Nat, ys = [.int .i64 i] ∧ i ≤ t.length ∧ namI true t = namI (i == 0) (t.drop i)) (fun ys => t.length - (nth ys 0).I.toNat) ?_ ?_
  · simp [-List.getD_eq_getElem?_getD, c_isName, c_within]
    exact ⟨0, rfl, by omega, rfl⟩
  · rintro ys ⟨i, rfl, h1, h2⟩
    refine hW.vc [] _ _ ?_
    simp [-List.getD_eq_getElem?_getD, c_isName, c_within]
    refine ⟨fun h3 => ?_, fun h3 _ => ?_⟩
    · have hd : t.drop i = t.getD i 0 :: t.drop (i + 1) := by
        rw [List.drop_eq_getElem_cons h3]; simp [h3]
      rw [hd, namI] at h2
      rw [wrap64 (n := (i : Int) + 1) (by omega)]
      generalize ((t.getD i 0).toNat : Int) = c at *
      refine ⟨h3, by omega, by omega, by omega, fun g1 g2 g3 g4 => ?_, fun g => ⟨⟨i + 1, by omega, by omega, ?_⟩, by omega⟩⟩
      · have hf : (letC c || (!(i == 0) && digC c)) = false := by
          cases hq : (letC c || (!(i == 0) && digC c)) with
          | false => rfl
          | true => simp [letC, digC, inB] at hq; omega
        rw [nameB, h2, hf]; rfl
      · have hf : (letC c || (!(i == 0) && digC c)) = true := by
          cases hq : (letC c || (!(i == 0) && digC c)) with
          | true => rfl
          | false => simp [letC, digC, inB] at hq; omega
        rw [h2, hf]; rfl
    · rw [nameB, h2, List.drop_eq_nil_of_le h3, namI, Bool.true_and]

theorem nameB_a {t : List UInt8} (h : ((t.length : Int) < 1 ∨ 40 < (t.length : Int)) ∨ letC (t.getD 0 0).toNat = false) : nameB t = false := by
  rcases h with h | h
  · have : inB t.length 1 40 = false := by
      cases hq : inB (t.length : Int) 1 40 with
      | false => rfl
      | true => simp [inB] at hq; omega
    rw [nameB, this, Bool.and_false]
  · cases t with
    | nil => simp [nameB, inB]
    | cons c l => simp only [List.getD_cons_zero] at h; simp [nameB, namI, h]
theorem nameB_b {t : List UInt8} (h : 0 < t.length) (h2 : letC (t.getD 0 0).toNat = true) : namI true t = namI false (t.drop 1) := by
  cases t with
  | nil => simp at h
  | cons c l => simp only [List.getD_cons_zero] at h2; simp [namI, h2]

def c_l00Letter : FSpec := ⟨[(.rd, .int .u8)], [.bool], true, fun _ => True, fun ps => [.bool (letC (nth ps 0).I)], fun _ => []⟩
theorem k_l00Letter : FnOk Tryd.prog 85 c_l00Letter := by
  refine fn_mk [0, 2] [.tmp 2] (env_nil (tyTab_ok [])) mixed Tryd.func85 rfl (by decide) rfl (by decide) rfl ?_
  intro ps hT hpre W hW
  simp only [c_l00Letter, TyA, Ty, Tys] at hT hpre
  obtain ⟨_, _, rfl, ⟨c, rfl, hc⟩, rfl⟩ := hT
  refine hW.vc [] _ _ ?_
  simp [-List.getD_eq_getElem?_getD, c_l00Letter]
  exact ⟨by omega, rfl⟩
def c_l00Digit : FSpec := ⟨[(.rd, .int .u8)], [.bool], true, fun _ => True, fun ps => [.bool (digC (nth ps 0).I)], fun _ => []⟩
theorem k_l00Digit : FnOk Tryd.prog 86 c_l00Digit := by
  refine fn_mk [0, 2] [.tmp 2] (env_nil (tyTab_ok [])) mixed Tryd.func86 rfl (by decide) rfl (by decide) rfl ?_
  intro ps hT hpre W hW
  simp only [c_l00Digit, TyA, Ty, Tys] at hT hpre
  obtain ⟨_, _, rfl, ⟨c, rfl, hc⟩, rfl⟩ := hT
  refine hW.vc [] _ _ ?_
  simp [-List.getD_eq_getElem?_getD, c_l00Digit]
  rfl
def c_l00Word : FSpec := c_isName
theorem k_l00Word : FnOk Tryd.prog 66 c_l00Word := by
  refine fn_mk [0, 2, 3] [.tmp 2] (env_cons (cs := []) k_l00Digit (env_cons (cs := []) k_l00Letter (env_nil (tyTab_ok [])))) mixed Tryd.func66 rfl (by decide) rfl (by decide) rfl ?_
  intro ps hT hpre W hW
  simp only [c_l00Word, TyA, Ty, Tys] at hT hpre
  simp only [c_isName, TyA, Ty, Tys] at hT
  obtain ⟨_, _, rfl, ⟨t, rfl, ht⟩, rfl⟩ := hT
  refine hW.vc [] _ _ ?_
  simp [-List.getD_eq_getElem?_getD, c_l00Word, c_l00Letter, c_l00Digit, c_isName]
  refine fun _ _ => ⟨fun _ _ => by omega, fun h => nameB_a h, fun g1 g2 g3 => ?_⟩
  refine hW.loopS _ _ _ [.sl 3 .dp (.int .i64)] (fun ys => ∃ i : Nat, ys = [.int .i64 i] ∧ i ≤ t.length ∧ namI true t = namI false (t.drop i)) (fun ys => t.length - (nth ys 0).I.toNat) ?_ ?_
  · simp [-List.getD_eq_getElem?_getD, c_l00Word, c_l00Letter, c_l00Digit, c_isName]
    exact ⟨1, rfl, by omega, nameB_b (by omega) g3⟩
  · rintro ys ⟨i, rfl, h1, h2⟩
    refine hW.vc [] _ _ ?_
    simp [-List.getD_eq_getElem?_getD, c_l00Word, c_l00Letter, c_l00Digit, c_isName]
    refine fun _ => ⟨fun h3 => ?_, fun h3 => ?_⟩
    · have hd : t.drop i = t.getD i 0 :: t.drop (i + 1) := by
        rw [List.drop_eq_getElem_cons h3]; simp [h3]
      rw [hd, namI] at h2
      rw [wrap64 (n := (i : Int) + 1) (by omega)]
      refine ⟨h3, fun h => ⟨h, h3⟩, fun k1 k2 => ?_, fun k => ⟨⟨i + 1, by omega, by omega, ?_⟩, by omega⟩⟩
      · rw [nameB, h2, k1, k2]; rfl
      · have hf : (letC (t.getD i 0).toNat || (!false && digC (t.getD i 0).toNat)) = true := by
          cases hq : letC (t.getD i 0).toNat with
          | true => rfl
          | false => rw [k hq]; rfl
        rw [h2, hf]; rfl
    · rw [nameB, h2, List.drop_eq_nil_of_le h3, namI, Bool.true_and]
      simp [inB]; omega

def c_sNameOK : FSpec := c_isName
theorem k_sNameOK : FnOk Tryd.prog 41 c_sNameOK := by
  refine fn_mk [0, 2] [.tmp 2] (env_cons (cs := []) k_l00Word (env_nil (tyTab_ok []))) mixed Tryd.func41 rfl (by decide) rfl (by decide) rfl ?_
  intro ps hT hpre W hW
  simp only [c_sNameOK, TyA, Ty, Tys] at hT hpre
  simp only [c_isName, TyA, Ty, Tys] at hT
  obtain ⟨_, _, rfl, ⟨t, rfl, ht⟩, rfl⟩ := hT
  refine hW.vc [] _ _ ?_
  simp [-List.getD_eq_getElem?_getD, c_sNameOK, c_l00Word, c_isName, c_isName]
def wordB (t : List UInt8) : Bool := nameB t && decide ((t.length : Int) ≤ 12)
def c_isWindowName : FSpec := ⟨[(.rd, .str)], [.bool], true, fun _ => True, fun ps => [.bool (wordB (nth ps 0).S)], fun _ => []⟩
theorem k_isWindowName : FnOk Tryd.prog 47 c_isWindowName := by
  refine fn_mk [0, 2] [.tmp 2] (env_cons (cs := []) k_isName (env_nil (tyTab_ok []))) mixed Tryd.func47 rfl (by decide) rfl (by decide) rfl ?_
  intro ps hT hpre W hW
  simp only [c_isWindowName, TyA, Ty, Tys] at hT hpre
  obtain ⟨_, _, rfl, ⟨t, rfl, ht⟩, rfl⟩ := hT
  refine hW.vc [] _ _ ?_
  simp [-List.getD_eq_getElem?_getD, c_isWindowName, c_isName]
  exact fun _ => rfl
def c_isClientId : FSpec := ⟨[(.rd, .int .i64)], [.bool], true, fun _ => True, fun ps => [.bool (inB (nth ps 0).I 0 200)], fun _ => []⟩
theorem k_isClientId : FnOk Tryd.prog 46 c_isClientId := by
  refine fn_mk [0, 2] [.tmp 2] (env_cons (cs := []) k_within (env_nil (tyTab_ok []))) mixed Tryd.func46 rfl (by decide) rfl (by decide) rfl ?_
  intro ps hT hpre W hW
  simp only [c_isClientId, TyA, Ty, Tys] at hT hpre
  obtain ⟨_, _, rfl, ⟨n, rfl, hn⟩, rfl⟩ := hT
  refine hW.vc [] _ _ ?_
  simp [-List.getD_eq_getElem?_getD, c_isClientId, c_within]
def toldB (c : Int) (t : List UInt8) (n : Int) : Bool := inB c 0 200 && wordB t && inB n (-1) 60
def c_isTold : FSpec := ⟨[(.rd, .int .i64), (.rd, .str), (.rd, .int .i64)], [.bool], true, fun _ => True, fun ps => [.bool (toldB (nth ps 0).I (nth ps 1).S (nth ps 2).I)], fun _ => []⟩
theorem k_isTold : FnOk Tryd.prog 24 c_isTold := by
  refine fn_mk [0, 1, 2, 6] [.tmp 6] (env_cons (cs := []) k_within (env_cons (cs := []) k_isWindowName (env_cons (cs := []) k_isClientId (env_nil (tyTab_ok []))))) mixed Tryd.func24 rfl (by decide) rfl (by decide) rfl ?_
  intro ps hT hpre W hW
  simp only [c_isTold, TyA, Ty, Tys] at hT hpre
  obtain ⟨_, _, rfl, ⟨c, rfl, hc⟩, _, _, rfl, ⟨t, rfl, ht⟩, _, _, rfl, ⟨n, rfl, hn⟩, rfl⟩ := hT
  refine hW.vc [] _ _ ?_
  simp [-List.getD_eq_getElem?_getD, c_isTold, c_isClientId, c_isWindowName, c_within]
  rfl
def c_l12Ask : FSpec := c_isTold
theorem k_l12Ask : FnOk Tryd.prog 21 c_l12Ask := by
  refine fn_mk [0, 1, 2, 6] [.tmp 6] (env_cons (cs := []) k_sNameOK (env_cons (cs := []) k_l01In (env_nil (tyTab_ok [])))) mixed Tryd.func21 rfl (by decide) rfl (by decide) rfl ?_
  intro ps hT hpre W hW
  simp only [c_l12Ask, TyA, Ty, Tys] at hT hpre
  simp only [c_isTold, TyA, Ty, Tys] at hT
  obtain ⟨_, _, rfl, ⟨c, rfl, hc⟩, _, _, rfl, ⟨t, rfl, ht⟩, _, _, rfl, ⟨n, rfl, hn⟩, rfl⟩ := hT
  refine hW.vc [] _ _ ?_
  simp [-List.getD_eq_getElem?_getD, c_l12Ask, c_l01In, c_sNameOK, c_isTold, c_within, c_isName, c_within, c_isName]
  intro _
  simp only [toldB, wordB]
  cases inB c 0 200 <;> cases nameB t <;> cases decide ((t.length : Int) ≤ 12) <;> cases inB n (-1) 60 <;> rfl
end Go.Proofs.YtolgjekokdimoaaDoor
end

section
namespace Go.Proofs.YtolgjekokdimoaaDoor
set_option maxRecDepth 100000
set_option linter.unusedSimpArgs false

def longN (n : Int) : Bool := decide (n > 65536)
def c_isLong1 : FSpec := ⟨[(.rd, .int .i64)], [.bool], true, fun _ => True, fun ps => [.bool (longN (nth ps 0).I)], fun _ => []⟩
theorem k_isLong1 : FnOk Tryd.prog 45 c_isLong1 := by
  refine fn_mk [0, 2] [.tmp 2] (env_nil (tyTab_ok [])) mixed Tryd.func45 rfl (by decide) rfl (by decide) rfl ?_
  intro ps hT hpre W hW
  simp only [c_isLong1, TyA, Ty, Tys] at hT hpre
  obtain ⟨_, _, rfl, ⟨n, rfl, hn⟩, rfl⟩ := hT
  refine hW.vc [] _ _ ?_
  simp [-List.getD_eq_getElem?_getD, c_isLong1]
  rfl

def c_IndexFunc_isLong1 : FSpec := ⟨[(.rd, .list (.int .i64)), (.rd, .fn 45 [])], [.int .i64], true, fun ps => True, fun ps => [.int .i64 (idxGo (fun e => longN e.I) 0 (nth ps 0).L)], fun _ => []⟩
theorem k_IndexFunc_isLong1 : FnOk Tryd.prog 70 c_IndexFunc_isLong1 := by
  refine fn_mk [0, 1, 4, 5, 7, 8] [.tmp 4] (env_cons (cs := []) k_isLong1 (env_nil (tyTab_ok []))) mixed Tryd.func70 rfl (by decide) rfl (by decide) rfl ?_
  intro ps hT hpre W hW
  simp only [c_IndexFunc_isLong1, TyA, Ty, Tys] at hT hpre
  obtain ⟨_, _, rfl, ⟨es, rfl, he, hes⟩, _, _, rfl, ⟨_, rfl, rfl⟩, rfl⟩ := hT
  refine hW.vc [] _ _ ?_
  simp [-List.getD_eq_getElem?_getD, c_IndexFunc_isLong1, c_isLong1]
  intro h1
  refine hW.loopS _ _ _ [.sl 8 .dp (.int .i64)] (fun ys => ∃ i : Nat, ys = [.int .i64 i] ∧ i ≤ es.length ∧ idxGo (fun e => longN e.I) 0 es = idxGo (fun e => longN e.I) i (es.drop i)) (fun ys => es.length - (nth ys 0).I.toNat) ?_ ?_
  · simp [-List.getD_eq_getElem?_getD, c_IndexFunc_isLong1, c_isLong1]
    exact ⟨0, rfl, by simp, by simp⟩
  · rintro ys ⟨i, rfl, h2, h3⟩
    refine hW.vc [] _ _ ?_
    simp [-List.getD_eq_getElem?_getD, c_IndexFunc_isLong1, c_isLong1]
    refine ⟨fun h4 => ⟨h4, fun _ => ⟨fun h5 => ?_, fun h5 => ?_⟩⟩, fun h4 => ?_⟩
    · rw [h3, drop_nth h4]; simp [idxGo, h5]
    · rw [wrap64 (by omega)]
      refine ⟨⟨i + 1, by omega, by omega, ?_⟩, by omega⟩
      rw [h3, drop_nth h4]; simp [idxGo, h5]
    · rw [h3, List.drop_eq_nil_of_le h4]; rfl

def c_ContainsFunc_isLong1 : FSpec := ⟨[(.rd, .list (.int .i64)), (.rd, .fn 45 [])], [.bool], true, fun ps => True, fun ps => [.bool ((nth ps 0).L.any (fun e => longN e.I))], fun _ => []⟩
theorem k_ContainsFunc_isLong1 : FnOk Tryd.prog 44 c_ContainsFunc_isLong1 := by
  refine fn_mk [0, 1, 4] [.tmp 4] (env_cons (cs := [45]) k_IndexFunc_isLong1 (env_nil (tyTab_ok []))) mixed Tryd.func44 rfl (by decide) rfl (by decide) rfl ?_
  intro ps hT hpre W hW
  simp only [c_ContainsFunc_isLong1, TyA, Ty, Tys] at hT hpre
  obtain ⟨_, _, rfl, ⟨es, rfl, he, hes⟩, _, _, rfl, ⟨_, rfl, rfl⟩, rfl⟩ := hT
  refine hW.vc [] _ _ ?_
  simp [-List.getD_eq_getElem?_getD, c_ContainsFunc_isLong1, c_IndexFunc_isLong1]
  exact idxGo_any (fun e => longN e.I) es 0

def c_isLong : FSpec := ⟨[(.rd, .list (.int .i64))], [.bool], true, fun _ => True, fun ps => [.bool ((nth ps 0).L.any (fun e => longN e.I))], fun _ => []⟩
theorem k_isLong : FnOk Tryd.prog 23 c_isLong := by
  refine fn_mk [0, 2] [.tmp 2] (env_cons (cs := [45]) k_ContainsFunc_isLong1 (env_nil (tyTab_ok []))) mixed Tryd.func23 rfl (by decide) rfl (by decide) rfl ?_
  intro ps hT hpre W hW
  simp only [c_isLong, TyA, Ty, Tys] at hT hpre
  obtain ⟨_, _, rfl, ⟨es, rfl, hes, tes⟩, rfl⟩ := hT
  refine hW.vc [] _ _ ?_
  simp [-List.getD_eq_getElem?_getD, c_isLong, c_ContainsFunc_isLong1]

end Go.Proofs.YtolgjekokdimoaaDoor
end

section
namespace Go.Proofs.YtolgjekokdimoaaDoor
set_option maxRecDepth 100000
set_option linter.unusedSimpArgs false

def hexC : List UInt8 := [48, 49, 50, 51, 52, 53, 54, 55, 56, 57, 97, 98, 99, 100, 101, 102]
def hexB (h : List UInt8) : List UInt8 := h.flatMap fun b => [hexC.getD (b.toNat / 16) 0, hexC.getD (b.toNat % 16) 0]
theorem hexB_len (h : List UInt8) : (hexB h).length = 2 * h.length := by
  induction h with
  | nil => rfl
  | cons e st ih => simp only [hexB, List.flatMap_cons, List.length_append, List.length_cons, List.length_nil] at ih ⊢; omega
theorem hexB_take {h : List UInt8} {i : Nat} (hi : i < h.length) : hexB (h.take (i + 1)) = hexB (h.take i) ++ [hexC.getD ((h.getD i 0).toNat / 16) 0, hexC.getD ((h.getD i 0).toNat % 16) 0] := by
  rw [List.take_succ_eq_append_getElem hi, hexB, List.flatMap_append]; simp [hi, hexB]

theorem hx1 (b : UInt8) : IntKind.u8.wrap ((b.toNat : Int) / 16) = ((b.toNat / 16 : Nat) : Int) ∧ True := by
  have hb := b.toNat_lt
  simp [IntKind.wrap, IntKind.signed, IntKind.bits]; omega
theorem hx2 (b : UInt8) : (b.toNat : Int).tmod 16 = ((b.toNat % 16 : Nat) : Int) := by
  rw [Int.tmod_eq_emod_of_nonneg (by omega)]; omega

theorem hx3 (b : UInt8) : shrI .u8 (b.toNat : Int) 4 = ((b.toNat / 16 : Nat) : Int) := by
  have h : ∀ n : Fin 256, shrI .u8 (n.val : Int) 4 = ((n.val / 16 : Nat) : Int) := by decide +kernel
  exact h ⟨b.toNat, b.toNat_lt⟩
theorem hx4 (b : UInt8) : andI .u8 (b.toNat : Int) 15 = ((b.toNat % 16 : Nat) : Int) := by
  have h : ∀ n : Fin 256, andI .u8 (n.val : Int) 15 = ((n.val % 16 : Nat) : Int) := by decide +kernel
  exact h ⟨b.toNat, b.toNat_lt⟩

def c_hashText : FSpec := ⟨[(.rd, .str)], [.str], true, fun ps => (nth ps 0).S.length ≤ 1000000, fun ps => [.str (hexB (nth ps 0).S)], fun _ => []⟩
theorem k_hashText : FnOk Tryd.prog 73 c_hashText := by
  refine fn_mk [0, 2, 3, 4, 10, 11] [.tmp 2] (env_nil (tyTab_ok [])) mixed Tryd.func73 rfl (by decide) rfl (by decide) rfl ?_
  intro ps hT hpre W hW
  simp only [c_hashText, TyA, Ty, Tys] at hT hpre
  obtain ⟨_, _, rfl, ⟨h, rfl, hh⟩, rfl⟩ := hT
  simp only [nth_zero, nth_succ, pv_S] at hpre
  refine hW.vc [(5, [12], .take 0 <| .take 1 <| .take 2 <| .take 3 <| .take 4 <| .take 5 <| .take 6 <| .take 7 <| .take 8 <| .take 9 <| .take 10 <| .alt 11 (.alt 12 (.alt 13 (.done) .stop) .stop) .stop)] _ _ ?_
  simp [-List.getD_eq_getElem?_getD, c_hashText]
  rw [wrap64 (n := 2 * (h.length : Int)) (by omega)]
  refine fun _ => ⟨⟨by omega, by omega⟩, fun _ => ?_⟩
  refine hW.loopS _ _ _ [.sl 3 .dp (.list (.int .u8)), .sl 11 .dp (.int .i64)] (fun ys => ∃ i : Nat, ys = [.list (bytesPV (hexB (h.take i))), .int .i64 i] ∧ i ≤ h.length) (fun ys => h.length - (nth ys 1).I.toNat) ?_ ?_
  · simp [-List.getD_eq_getElem?_getD, c_hashText]
    exact ⟨0, ⟨rfl, rfl⟩, by omega⟩
  · rintro ys ⟨i, rfl, h1⟩
    refine hW.vc [(5, [12], .take 0 <| .take 1 <| .take 2 <| .take 3 <| .take 4 <| .take 5 <| .take 6 <| .take 7 <| .take 8 <| .take 9 <| .take 10 <| .alt 11 (.alt 12 (.alt 13 (.done) .stop) .stop) .stop)] _ _ ?_
    simp [-List.getD_eq_getElem?_getD, c_hashText]
    have hl : (bytesPV (hexB (h.take i))).length = 2 * i := by rw [bytesPV_len, hexB_len, List.length_take]; omega
    rw [wrap64 (n := (i : Int) + 1) (by omega), hl, hx3, hx4]
    refine ⟨fun h2 => ?_, fun h2 => ?_⟩
    · have hb := (h.getD i 0).toNat_lt
      refine ⟨by decide +kernel, h2, ⟨by omega, by omega⟩, h2, ⟨by omega, by omega⟩, by decide, by omega, fun _ => ⟨⟨i + 1, ⟨?_, by omega⟩, by omega⟩, by omega⟩⟩
      rw [hexB_take h2, bytesPV_app]; rfl
    · rw [List.take_of_length_le h2, pvBytes_bytes]
def c_l01Hex : FSpec := c_hashText
theorem k_l01Hex : FnOk Tryd.prog 68 c_l01Hex := by
  refine fn_mk [0, 2, 3, 4] [.tmp 2] (env_nil (tyTab_ok [])) mixed Tryd.func68 rfl (by decide) rfl (by decide) rfl ?_
  intro ps hT hpre W hW
  simp only [c_l01Hex, TyA, Ty, Tys] at hT hpre
  simp only [c_hashText, TyA, Ty, Tys] at hT hpre
  obtain ⟨_, _, rfl, ⟨h, rfl, hh⟩, rfl⟩ := hT
  simp only [nth_zero, nth_succ, pv_S] at hpre
  refine hW.vc [(5, [12], .take 0 <| .take 1 <| .take 2 <| .take 3 <| .take 4 <| .take 5 <| .take 6 <| .take 7 <| .take 8 <| .take 9 <| .take 10 <| .alt 11 (.alt 12 (.alt 13 (.done) .stop) .stop) .stop)] _ _ ?_
  simp [-List.getD_eq_getElem?_getD, c_l01Hex, c_hashText]
  refine hW.loopS _ _ _ [.sl 3 .dp (.list (.int .u8)), .sl 4 .dp (.int .i64)] (fun ys => ∃ i : Nat, ys = [.list (bytesPV (hexB (h.take i))), .int .i64 i] ∧ i ≤ h.length) (fun ys => h.length - (nth ys 1).I.toNat) ?_ ?_
  · simp [-List.getD_eq_getElem?_getD, c_l01Hex, c_hashText]
    exact ⟨0, ⟨rfl, rfl⟩, by omega⟩
  · rintro ys ⟨i, rfl, h1⟩
    refine hW.vc [(5, [12], .take 0 <| .take 1 <| .take 2 <| .take 3 <| .take 4 <| .take 5 <| .take 6 <| .take 7 <| .take 8 <| .take 9 <| .take 10 <| .alt 11 (.alt 12 (.alt 13 (.done) .stop) .stop) .stop)] _ _ ?_
    simp [-List.getD_eq_getElem?_getD, c_l01Hex, c_hashText]
    have hl : (bytesPV (hexB (h.take i))).length = 2 * i := by rw [bytesPV_len, hexB_len, List.length_take]; omega
    rw [wrap64 (n := (i : Int) + 1) (by omega), hl, (hx1 (h.getD i 0)).1, hx2]
    refine fun _ => ⟨fun h2 => ?_, fun h2 => ?_⟩
    · have hb := (h.getD i 0).toNat_lt
      refine ⟨by decide +kernel, h2, ⟨by omega, by omega⟩, h2, ⟨by omega, by omega⟩, by decide, by omega, fun _ => ⟨⟨i + 1, ⟨?_, by omega⟩, by omega⟩, by omega⟩⟩
      rw [hexB_take h2, bytesPV_app]; rfl
    · rw [List.take_of_length_le h2, pvBytes_bytes]

def markL (key head : List UInt8) : List UInt8 := (hexB (hmacL key head)).take 32
theorem markL_len (key head : List UInt8) : (markL key head).length = 32 := by
  rw [markL, List.length_take, hexB_len, hmacL_len]; rfl
def c_markOf : FSpec := ⟨[(.rd, .str), (.rd, .str)], [.str], true, fun ps => (nth ps 0).S.length ≤ 1000000 ∧ (nth ps 1).S.length ≤ 1000000, fun ps => [.str (markL (nth ps 0).S (nth ps 1).S)], fun _ => []⟩
theorem k_markOf : FnOk Tryd.prog 49 c_markOf := by
  refine fn_mk [0, 1, 4] [.tmp 4] (env_cons (cs := []) k_hashText (env_cons (cs := []) k_hmac (env_nil (tyTab_ok [])))) mixed Tryd.func49 rfl (by decide) rfl (by decide) rfl ?_
  intro ps hT hpre W hW
  simp only [c_markOf, TyA, Ty, Tys] at hT hpre
  obtain ⟨_, _, rfl, ⟨key, rfl, hkey⟩, _, _, rfl, ⟨msg, rfl, hmsg⟩, rfl⟩ := hT
  simp only [nth_zero, nth_succ, pv_S] at hpre
  refine hW.vc [] _ _ ?_
  simp [-List.getD_eq_getElem?_getD, c_markOf, c_hmac, c_hashText]
  exact ⟨hpre, by rw [hmacL_len]; omega, by rw [hexB_len, hmacL_len]; omega, rfl⟩

theorem decS_neg {n : Int} (h : n < 0) (h2 : -999 ≤ n) : decS n = 45 :: decS (-n) := by
  have e1 : (-n).toNat = n.natAbs := by omega
  rw [decS, decS, Lib.itoa, Lib.itoa, if_pos h, if_neg (by omega), e1]
theorem decS_small {n : Int} (h : 0 ≤ n) (h2 : n < 10) : decS n = [UInt8.ofNat (48 + n).toNat] := by
  have : ∀ k : Fin 10, decS (k.val : Int) = [UInt8.ofNat (48 + (k.val : Int)).toNat] := by decide +kernel
  have := this ⟨n.toNat, by omega⟩
  rwa [show ((n.toNat : Nat) : Int) = n by omega] at this
theorem decS_big {n : Int} (h : 10 ≤ n) (h2 : n < 1000) : decS n = decS (n / 10) ++ [UInt8.ofNat (48 + n % 10).toNat] := by
  have : ∀ k : Fin 1000, k.val < 10 ∨ decS (k.val : Int) = decS ((k.val : Int) / 10) ++ [UInt8.ofNat (48 + (k.val : Int) % 10).toNat] := by decide +kernel
  have := this ⟨n.toNat, by omega⟩
  rw [show ((n.toNat : Nat) : Int) = n by omega] at this
  rcases this with h3 | h3
  · simp at h3; omega
  · exact h3
theorem dgU {n : Int} (h : 0 ≤ n) (h2 : n < 10) : pvBytes [PV.int .u8 (IntKind.u8.wrap (IntKind.i64.wrap (48 + n)))] = [UInt8.ofNat (48 + n).toNat] := by
  have e : IntKind.u8.wrap (48 + n) = 48 + n := by
    simp [IntKind.wrap, IntKind.signed, IntKind.bits]; omega
  rw [wrap64 (by omega), e]; rfl
def c_l00Digits0 : FSpec := ⟨[(.rd, .int .i64)], [.str], true, fun ps => 0 ≤ (nth ps 0).I ∧ (nth ps 0).I < 10, fun ps => [.str (decS (nth ps 0).I)], fun _ => []⟩
theorem k_l00Digits0 : FnOk Tryd.prog 67 c_l00Digits0 := by
  refine fn_mk [0, 2] [.tmp 2] (env_nil (tyTab_ok [])) mixed Tryd.func67 rfl (by decide) rfl (by decide) rfl ?_
  intro ps hT hpre W hW
  simp only [c_l00Digits0, TyA, Ty, Tys] at hT hpre
  obtain ⟨_, _, rfl, ⟨n, rfl, hn⟩, rfl⟩ := hT
  simp only [nth_zero, nth_succ, pv_I] at hpre
  refine hW.vc [(7, [], .take 0 <| .take 1 <| .take 3 <| .take 4 <| .take 5 <| .take 6 <| .alt 2 (.alt 7 (.take 8 <| .take 9 <| .alt 10 (.done) .stop) .stop) (.alt 7 (.take 8 <| .alt 2 (.take 9 <| .alt 10 (.done) .stop) .stop) .stop))] _ _ ?_
  simp [-List.getD_eq_getElem?_getD, c_l00Digits0]
  refine ⟨fun h => by exfalso; omega, fun _ => ⟨fun h => by exfalso; omega, fun h => ⟨fun h3 => by rw [dgU h h3, decS_small h h3], hpre.2⟩⟩⟩
def c_l00Digits1 : FSpec := ⟨[(.rd, .int .i64)], [.str], true, fun ps => 0 ≤ (nth ps 0).I ∧ (nth ps 0).I < 100, fun ps => [.str (decS (nth ps 0).I)], fun _ => []⟩
theorem k_l00Digits1 : FnOk Tryd.prog 67 c_l00Digits1 := by
  refine fn_mk [0, 2] [.tmp 2] (env_cons (cs := []) k_l00Digits0 (env_nil (tyTab_ok []))) mixed Tryd.func67 rfl (by decide) rfl (by decide) rfl ?_
  intro ps hT hpre W hW
  simp only [c_l00Digits1, TyA, Ty, Tys] at hT hpre
  obtain ⟨_, _, rfl, ⟨n, rfl, hn⟩, rfl⟩ := hT
  simp only [nth_zero, nth_succ, pv_I] at hpre
  refine hW.vc [(7, [], .take 0 <| .take 1 <| .take 3 <| .take 4 <| .take 5 <| .take 6 <| .alt 2 (.alt 7 (.take 8 <| .take 9 <| .alt 10 (.done) .stop) .stop) (.alt 7 (.take 8 <| .alt 2 (.take 9 <| .alt 10 (.done) .stop) .stop) .stop))] _ _ ?_
  simp [-List.getD_eq_getElem?_getD, c_l00Digits1, c_l00Digits0]
  have e1 : 0 ≤ n → n.tdiv 10 = n / 10 := fun h => Int.tdiv_eq_ediv_of_nonneg h
  have e2 : 0 ≤ n → n.tmod 10 = n % 10 := fun h => Int.tmod_eq_emod_of_nonneg h
  refine ⟨fun h => by exfalso; omega, fun _ => ⟨fun h => ?_, fun h => ⟨fun h3 => by rw [dgU h h3, decS_small h h3], fun h3 => ?_⟩⟩⟩
  · rw [wrap64 (by omega)]
    have l := decS_len (n := -n) (by omega) (by omega)
    exact ⟨by omega, by omega, (decS_neg h (by omega)).symm⟩
  · rw [e1 h, e2 h, wrap64 (n := n / 10) (by omega), dgU (by omega) (by omega)]
    have l := decS_len (n := n / 10) (by omega) (by omega)
    exact ⟨by decide +kernel, by omega, by simp only [List.length_cons, List.length_nil]; omega, (decS_big h3 (by omega)).symm⟩
def c_l00Digits : FSpec := ⟨[(.rd, .int .i64)], [.str], true, fun ps => -1 ≤ (nth ps 0).I ∧ (nth ps 0).I < 1000, fun ps => [.str (decS (nth ps 0).I)], fun _ => []⟩
theorem k_l00Digits : FnOk Tryd.prog 67 c_l00Digits := by
  refine fn_mk [0, 2] [.tmp 2] (env_cons (cs := []) k_l00Digits1 (env_nil (tyTab_ok []))) mixed Tryd.func67 rfl (by decide) rfl (by decide) rfl ?_
  intro ps hT hpre W hW
  simp only [c_l00Digits, TyA, Ty, Tys] at hT hpre
  obtain ⟨_, _, rfl, ⟨n, rfl, hn⟩, rfl⟩ := hT
  simp only [nth_zero, nth_succ, pv_I] at hpre
  refine hW.vc [(7, [], .take 0 <| .take 1 <| .take 3 <| .take 4 <| .take 5 <| .take 6 <| .alt 2 (.alt 7 (.take 8 <| .take 9 <| .alt 10 (.done) .stop) .stop) (.alt 7 (.take 8 <| .alt 2 (.take 9 <| .alt 10 (.done) .stop) .stop) .stop))] _ _ ?_
  simp [-List.getD_eq_getElem?_getD, c_l00Digits, c_l00Digits1]
  have e1 : 0 ≤ n → n.tdiv 10 = n / 10 := fun h => Int.tdiv_eq_ediv_of_nonneg h
  have e2 : 0 ≤ n → n.tmod 10 = n % 10 := fun h => Int.tmod_eq_emod_of_nonneg h
  refine ⟨fun h => by exfalso; omega, fun _ => ⟨fun h => ?_, fun h => ⟨fun h3 => by rw [dgU h h3, decS_small h h3], fun h3 => ?_⟩⟩⟩
  · rw [wrap64 (by omega)]
    have l := decS_len (n := -n) (by omega) (by omega)
    exact ⟨by omega, by omega, (decS_neg h (by omega)).symm⟩
  · rw [e1 h, e2 h, wrap64 (n := n / 10) (by omega), dgU (by omega) (by omega)]
    have l := decS_len (n := n / 10) (by omega) (by omega)
    exact ⟨by decide +kernel, by omega, by simp only [List.length_cons, List.length_nil]; omega, (decS_big h3 (by omega)).symm⟩

end Go.Proofs.YtolgjekokdimoaaDoor
end

section
namespace Go.Proofs.YtolgjekokdimoaaDoor
set_option maxRecDepth 100000
set_option linter.unusedSimpArgs false

def headL (c : Int) (t : List UInt8) (n : Int) : List UInt8 := [116, 111, 107, 101, 110, 32] ++ (decS c ++ ([32] ++ (t ++ ([32] ++ decS n))))
theorem headL_len {c n : Int} {t : List UInt8} (hc : 0 ≤ c) (hc2 : c ≤ 200) (ht : t.length ≤ 12) (hn : -1 ≤ n) (hn2 : n ≤ 60) : (headL c t n).length ≤ 26 := by
  have l1 := decS_len (n := c) (by omega) (by omega)
  have l2 := decS_len (n := n) (by omega) (by omega)
  simp only [headL, List.length_append, List.length_cons, List.length_nil]
  omega
def toldP (c : Int) (t : List UInt8) (n : Int) : Prop := 0 ≤ c ∧ c ≤ 200 ∧ t.length ≤ 12 ∧ -1 ≤ n ∧ n ≤ 60
def c_tokenHead : FSpec := ⟨[(.rd, .int .i64), (.rd, .str), (.rd, .int .i64)], [.str], true, fun ps => toldP (nth ps 0).I (nth ps 1).S (nth ps 2).I, fun ps => [.str (headL (nth ps 0).I (nth ps 1).S (nth ps 2).I)], fun _ => []⟩
theorem k_tokenHead : FnOk Tryd.prog 48 c_tokenHead := by
  refine fn_mk [0, 1, 2, 6] [.tmp 6] (env_cons (cs := []) k_Itoa (env_nil (tyTab_ok []))) mixed Tryd.func48 rfl (by decide) rfl (by decide) rfl ?_
  intro ps hT hpre W hW
  simp only [c_tokenHead, TyA, Ty, Tys] at hT hpre
  obtain ⟨_, _, rfl, ⟨c, rfl, hc⟩, _, _, rfl, ⟨t, rfl, ht⟩, _, _, rfl, ⟨n, rfl, hn⟩, rfl⟩ := hT
  simp only [nth_zero, nth_succ, pv_I, pv_S, toldP] at hpre
  refine hW.vc [] _ _ ?_
  simp [-List.getD_eq_getElem?_getD, c_tokenHead, c_Itoa]
  obtain ⟨q1, q2, q3, q4, q5⟩ := hpre
  have l1 := decS_len (n := c) (by omega) (by omega)
  have l2 := decS_len (n := n) (by omega) (by omega)
  exact ⟨by omega, by omega, by omega, by omega, by omega, by omega, by omega, rfl⟩
def c_l12Plain : FSpec := c_tokenHead
theorem k_l12Plain : FnOk Tryd.prog 42 c_l12Plain := by
  refine fn_mk [0, 1, 2, 6] [.tmp 6] (env_cons (cs := []) k_l00Digits (env_nil (tyTab_ok []))) mixed Tryd.func42 rfl (by decide) rfl (by decide) rfl ?_
  intro ps hT hpre W hW
  simp only [c_l12Plain, TyA, Ty, Tys] at hT hpre
  simp only [c_tokenHead, TyA, Ty, Tys] at hT hpre
  obtain ⟨_, _, rfl, ⟨c, rfl, hc⟩, _, _, rfl, ⟨t, rfl, ht⟩, _, _, rfl, ⟨n, rfl, hn⟩, rfl⟩ := hT
  simp only [nth_zero, nth_succ, pv_I, pv_S, toldP] at hpre
  refine hW.vc [] _ _ ?_
  simp [-List.getD_eq_getElem?_getD, c_l12Plain, c_l00Digits, c_tokenHead]
  obtain ⟨q1, q2, q3, q4, q5⟩ := hpre
  have l1 := decS_len (n := c) (by omega) (by omega)
  have l2 := decS_len (n := n) (by omega) (by omega)
  exact ⟨by omega, by omega, by omega, by omega, by omega, by omega, by omega, rfl⟩
def c_l12Mark : FSpec := ⟨[(.rd, .str), (.rd, .int .i64), (.rd, .str), (.rd, .int .i64)], [.str], true, fun ps => (nth ps 0).S.length ≤ 1000000 ∧ toldP (nth ps 1).I (nth ps 2).S (nth ps 3).I, fun ps => [.str (markL (nth ps 0).S (headL (nth ps 1).I (nth ps 2).S (nth ps 3).I))], fun _ => []⟩
theorem k_l12Mark : FnOk Tryd.prog 43 c_l12Mark := by
  refine fn_mk [0, 1, 2, 3, 8] [.tmp 8] (env_cons (cs := []) k_l01Hex (env_cons (cs := []) k_l02Hmac (env_cons (cs := []) k_l12Plain (env_nil (tyTab_ok []))))) mixed Tryd.func43 rfl (by decide) rfl (by decide) rfl ?_
  intro ps hT hpre W hW
  simp only [c_l12Mark, TyA, Ty, Tys] at hT hpre
  obtain ⟨_, _, rfl, ⟨key, rfl, hkey⟩, _, _, rfl, ⟨c, rfl, hc⟩, _, _, rfl, ⟨t, rfl, ht⟩, _, _, rfl, ⟨n, rfl, hn⟩, rfl⟩ := hT
  simp only [nth_zero, nth_succ, pv_I, pv_S] at hpre
  refine hW.vc [] _ _ ?_
  simp [-List.getD_eq_getElem?_getD, c_l12Mark, c_l12Plain, c_l02Hmac, c_l01Hex, c_tokenHead, c_hmac, c_hashText, c_tokenHead, c_hmac, c_hashText]
  obtain ⟨q0, hp⟩ := hpre
  have hp' := hp
  obtain ⟨q1, q2, q3, q4, q5⟩ := hp'
  have l1 := headL_len q1 q2 q3 q4 q5
  exact ⟨hp, ⟨q0, by omega⟩, by rw [hmacL_len]; omega, by rw [hexB_len, hmacL_len]; omega, rfl⟩
def tokenL (key : List UInt8) (c : Int) (t : List UInt8) (n : Int) : List UInt8 := headL c t n ++ ([32] ++ markL key (headL c t n))
def c_tokenOf : FSpec := ⟨[(.rd, .str), (.rd, .int .i64), (.rd, .str), (.rd, .int .i64)], [.str], true, fun ps => (nth ps 0).S.length ≤ 1000000 ∧ toldP (nth ps 1).I (nth ps 2).S (nth ps 3).I, fun ps => [.str (tokenL (nth ps 0).S (nth ps 1).I (nth ps 2).S (nth ps 3).I)], fun _ => []⟩
theorem k_tokenOf : FnOk Tryd.prog 25 c_tokenOf := by
  refine fn_mk [0, 1, 2, 3, 8, 9] [.tmp 8] (env_cons (cs := []) k_markOf (env_cons (cs := []) k_tokenHead (env_nil (tyTab_ok [])))) mixed Tryd.func25 rfl (by decide) rfl (by decide) rfl ?_
  intro ps hT hpre W hW
  simp only [c_tokenOf, TyA, Ty, Tys] at hT hpre
  obtain ⟨_, _, rfl, ⟨key, rfl, hkey⟩, _, _, rfl, ⟨c, rfl, hc⟩, _, _, rfl, ⟨t, rfl, ht⟩, _, _, rfl, ⟨n, rfl, hn⟩, rfl⟩ := hT
  simp only [nth_zero, nth_succ, pv_I, pv_S] at hpre
  refine hW.vc [] _ _ ?_
  simp [-List.getD_eq_getElem?_getD, c_tokenOf, c_tokenHead, c_markOf]
  obtain ⟨q0, hp⟩ := hpre
  have hp' := hp
  obtain ⟨q1, q2, q3, q4, q5⟩ := hp'
  have l1 := headL_len q1 q2 q3 q4 q5
  exact ⟨hp, by omega, ⟨q0, by omega⟩, by rw [markL_len]; omega, rfl⟩
def c_l12Issue : FSpec := c_tokenOf
theorem k_l12Issue : FnOk Tryd.prog 22 c_l12Issue := by
  refine fn_mk [0, 1, 2, 3, 8] [.tmp 8] (env_cons (cs := []) k_l12Mark (env_cons (cs := []) k_l12Plain (env_nil (tyTab_ok [])))) mixed Tryd.func22 rfl (by decide) rfl (by decide) rfl ?_
  intro ps hT hpre W hW
  simp only [c_l12Issue, TyA, Ty, Tys] at hT hpre
  simp only [c_tokenOf, TyA, Ty, Tys] at hT hpre
  obtain ⟨_, _, rfl, ⟨key, rfl, hkey⟩, _, _, rfl, ⟨c, rfl, hc⟩, _, _, rfl, ⟨t, rfl, ht⟩, _, _, rfl, ⟨n, rfl, hn⟩, rfl⟩ := hT
  simp only [nth_zero, nth_succ, pv_I, pv_S] at hpre
  refine hW.vc [] _ _ ?_
  simp [-List.getD_eq_getElem?_getD, c_l12Issue, c_l12Plain, c_l12Mark, c_tokenOf, c_tokenHead, c_tokenHead]
  obtain ⟨q0, hp⟩ := hpre
  have hp' := hp
  obtain ⟨q1, q2, q3, q4, q5⟩ := hp'
  have l1 := headL_len q1 q2 q3 q4 q5
  exact ⟨hp, by omega, ⟨q0, hp⟩, by rw [markL_len]; omega, rfl⟩

end Go.Proofs.YtolgjekokdimoaaDoor
end

section
namespace Go.Proofs.YtolgjekokdimoaaDoor
set_option maxRecDepth 100000
set_option linter.unusedSimpArgs false

theorem toldB_P {c n : Int} {t : List UInt8} (h : toldB c t n = true) : toldP c t n := by
  simp only [toldB, wordB, inB, Bool.and_eq_true, decide_eq_true_eq] at h
  unfold toldP
  omega
def longB (a b : List UInt8) : Bool := longN a.length || longN b.length
/-- What issuing and marking answer: a text and a code. -/
def markV (key : List UInt8) (c : Int) (t : List UInt8) (n : Int) : List UInt8 × Int :=
  if longB key t = true then ([], 2) else if toldB c t n = true then (markL key (headL c t n), 0) else ([], 1)
def issueV (key : List UInt8) (c : Int) (t : List UInt8) (n : Int) : List UInt8 × Int :=
  if longB key t = true then ([], 2) else if toldB c t n = true then (tokenL key c t n, 0) else ([], 1)
def c_TokenMark : FSpec := ⟨[(.rd, .str), (.rd, .int .i64), (.rd, .str), (.rd, .int .i64)], [.str, .int .i64], true, fun _ => True, fun ps => [.str (markV (nth ps 0).S (nth ps 1).I (nth ps 2).S (nth ps 3).I).1, .int .i64 (markV (nth ps 0).S (nth ps 1).I (nth ps 2).S (nth ps 3).I).2], fun _ => []⟩
def c_sTokenMark : FSpec := c_TokenMark
def c_IssueToken : FSpec := ⟨[(.rd, .str), (.rd, .int .i64), (.rd, .str), (.rd, .int .i64)], [.str, .int .i64], true, fun _ => True, fun ps => [.str (issueV (nth ps 0).S (nth ps 1).I (nth ps 2).S (nth ps 3).I).1, .int .i64 (issueV (nth ps 0).S (nth ps 1).I (nth ps 2).S (nth ps 3).I).2], fun _ => []⟩
theorem k_IssueToken : FnOk Tryd.prog 8 c_IssueToken := by
  refine fn_mk [0, 1, 2, 3, 8, 9] [.tmp 8, .tmp 9] (env_cons (cs := []) k_tokenOf (env_cons (cs := []) k_isTold (env_cons (cs := []) k_isLong (env_nil (tyTab_ok []))))) mixed Tryd.func8 rfl (by decide) rfl (by decide) rfl ?_
  intro ps hT hpre W hW
  simp only [c_IssueToken, TyA, Ty, Tys] at hT hpre
  obtain ⟨_, _, rfl, ⟨key, rfl, hkey⟩, _, _, rfl, ⟨c, rfl, hc⟩, _, _, rfl, ⟨t, rfl, ht⟩, _, _, rfl, ⟨n, rfl, hn⟩, rfl⟩ := hT
  refine hW.vc [] _ _ ?_
  simp [-List.getD_eq_getElem?_getD, c_IssueToken, c_isLong, c_isTold, c_tokenOf]
  refine fun _ _ => ⟨by decide, fun h => ?_, fun h1 h2 => ⟨fun h3 => ?_, fun h3 => ?_⟩⟩
  · have hb : longB key t = true := by rcases h with h | h <;> simp [longB, h]
    simp [issueV, hb]
  · have hb : longB key t = false := by simp [longB, h1, h2]
    simp [issueV, hb, h3]
  · have hb : longB key t = false := by simp [longB, h1, h2]
    have hp := toldB_P h3
    have hp' := hp
    obtain ⟨q1, q2, q3, q4, q5⟩ := hp'
    have l1 := headL_len q1 q2 q3 q4 q5
    have hk : key.length ≤ 65536 := by simp [longN] at h1; omega
    exact ⟨⟨by omega, hp⟩, by simp [issueV, hb, h3]⟩
def c_sIssueToken : FSpec := c_IssueToken
theorem k_sIssueToken : FnOk Tryd.prog 7 c_sIssueToken := by
  refine fn_mk [0, 1, 2, 3, 8, 9] [.tmp 8, .tmp 9] (env_cons (cs := []) k_l12Issue (env_cons (cs := []) k_l12Ask (env_nil (tyTab_ok [])))) mixed Tryd.func7 rfl (by decide) rfl (by decide) rfl ?_
  intro ps hT hpre W hW
  simp only [c_sIssueToken, TyA, Ty, Tys] at hT hpre
  simp only [c_IssueToken, TyA, Ty, Tys] at hT
  obtain ⟨_, _, rfl, ⟨key, rfl, hkey⟩, _, _, rfl, ⟨c, rfl, hc⟩, _, _, rfl, ⟨t, rfl, ht⟩, _, _, rfl, ⟨n, rfl, hn⟩, rfl⟩ := hT
  refine hW.vc [] _ _ ?_
  simp [-List.getD_eq_getElem?_getD, c_sIssueToken, c_l12Ask, c_l12Issue, c_IssueToken, c_isTold, c_tokenOf, c_isTold, c_tokenOf]
  refine fun _ _ => ⟨fun h => ?_, fun h1 h2 => ⟨fun h3 => ?_, fun h3 => ?_⟩⟩
  · have hb : longB key t = true := by simp [longB, longN]; omega
    simp [issueV, hb]
  · have hb : longB key t = false := by simp [longB, longN]; omega
    simp [issueV, hb, h3]
  · have hb : longB key t = false := by simp [longB, longN]; omega
    have hp := toldB_P h3
    exact ⟨⟨by omega, hp⟩, by simp [issueV, hb, h3]⟩

def c_exTokenMark : FSpec := ⟨[(.rd, .str), (.rd, .int .i64), (.rd, .str), (.rd, .int .i64)], [.bool], true, fun _ => True, fun _ => [.bool true], fun _ => []⟩
def c_exIssueToken : FSpec := c_exTokenMark
theorem k_exIssueToken : FnOk Tryd.prog 3 c_exIssueToken := by
  refine fn_mk [0, 1, 2, 3, 8, 9, 10, 11, 12] [.tmp 8] (env_cons (cs := []) k_IssueToken (env_cons (cs := []) k_sIssueToken (env_nil (tyTab_ok [])))) mixed Tryd.func3 rfl (by decide) rfl (by decide) rfl ?_
  intro ps hT hpre W hW
  simp only [c_exIssueToken, TyA, Ty, Tys] at hT hpre
  simp only [c_exTokenMark, TyA, Ty, Tys] at hT
  obtain ⟨_, _, rfl, ⟨key, rfl, hkey⟩, _, _, rfl, ⟨c, rfl, hc⟩, _, _, rfl, ⟨t, rfl, ht⟩, _, _, rfl, ⟨n, rfl, hn⟩, rfl⟩ := hT
  refine hW.vc [] _ _ ?_
  simp [-List.getD_eq_getElem?_getD, c_exIssueToken, c_sIssueToken, c_IssueToken, c_exTokenMark, c_IssueToken]

end Go.Proofs.YtolgjekokdimoaaDoor
end

section
namespace Go.Proofs.YtolgjekokdimoaaDoor
set_option maxRecDepth 100000
set_option linter.unusedSimpArgs false

theorem szStr_len {es : List PV} {l : Int} (h : 0 ≤ l) (h1 : 0 ≤ szStr es l) : (es.length : Int) ≤ l := (szStr_le h).2.2 h1
theorem eqS_refl (es : List PV) : eqL (fun x y => x.S == y.S) es es = true := eqL_refl fun _ => by simp

theorem fullOf_len (n w h : Int) (es : List PV) : (fullOf n w h es).1.r.length ≤ es.length := by
  unfold fullOf
  split
  · simp [VW.no]
  · split
    · simp [VW.no]
    · split
      · simp [VW.no]
      · simp [fullGo_len]

def c_exFullView : FSpec := ⟨[(.rd, .int .i64), (.rd, .int .i64), (.rd, .int .i64), (.rd, .list .str)], [.bool], true, fun _ => True, fun _ => [.bool true], fun _ => []⟩
/-- The rows that differ. -/
def diffGo (i : Nat) : List PV → List PV → List PV
  | x :: xs, y :: ys => cond (x.S == y.S) (diffGo (i + 1) xs ys) (.agg [.int .i64 i, .str y.S] :: diffGo (i + 1) xs ys)
  | _, _ => []
theorem diffGo_len : ∀ (xs ys : List PV) (i : Nat), (diffGo i xs ys).length ≤ ys.length
  | [], ys, i => by simp [diffGo]
  | x :: xs, [], i => by simp [diffGo]
  | x :: xs, y :: ys, i => by
    have := diffGo_len xs ys (i + 1)
    simp only [diffGo]
    cases x.S == y.S
    · simp; omega
    · simp; omega
theorem diffGo_take : ∀ (xs ys : List PV) (i k : Nat), k < xs.length → k < ys.length → diffGo i (xs.take (k + 1)) (ys.take (k + 1)) = diffGo i (xs.take k) (ys.take k) ++ (cond ((nth xs k).S == (nth ys k).S) [] [.agg [.int .i64 (i + k : Nat), .str (nth ys k).S]])
  | [], _, _, _, h, _ => by simp at h
  | _ :: _, [], _, _, _, h => by simp at h
  | x :: xs, y :: ys, i, 0, _, _ => by
    simp only [List.take_succ_cons, List.take_zero, diffGo, nth_zero, List.nil_append, Nat.add_zero]
  | x :: xs, y :: ys, i, k + 1, h1, h2 => by
    have := diffGo_take xs ys (i + 1) k (by simpa using h1) (by simpa using h2)
    simp only [List.take_succ_cons, diffGo, nth_succ] at this ⊢
    rw [this, show i + 1 + k = i + (k + 1) by omega]
    cases x.S == y.S
    · rfl
    · rfl
theorem diffGo_eq {xs ys : List PV} {i k : Nat} (h1 : k < xs.length) (h2 : k < ys.length) (h : (nth xs k).S = (nth ys k).S) : diffGo i (xs.take (k + 1)) (ys.take (k + 1)) = diffGo i (xs.take k) (ys.take k) := by
  rw [diffGo_take _ _ _ _ h1 h2, h, beq_self_eq_true, cond_true, List.append_nil]
theorem diffGo_ne {xs ys : List PV} {k : Nat} (h1 : k < xs.length) (h2 : k < ys.length) (h : ¬ (nth xs k).S = (nth ys k).S) : diffGo 0 (xs.take (k + 1)) (ys.take (k + 1)) = diffGo 0 (xs.take k) (ys.take k) ++ [.agg [.int .i64 k, .str (nth ys k).S]] := by
  rw [diffGo_take _ _ _ _ h1 h2, beq_false_of_ne h, cond_false, Nat.zero_add]

def c_diffView : FSpec := ⟨[(.rd, .int .i64), (.rd, .int .i64), (.rd, .int .i64), (.rd, .int .i64), (.rd, .list .str), (.rd, .list .str)], [.agg [.int .i64, .int .i64, .bool, .int .i64, .int .i64, .list (.agg [.int .i64, .str])]], true, fun ps => (nth ps 4).L.length = (nth ps 5).L.length ∧ (nth ps 5).L.length ≤ 1048576,
  fun ps => [.agg [.int .i64 (nth ps 1).I, .int .i64 (nth ps 0).I, .bool false, .int .i64 (nth ps 2).I, .int .i64 (nth ps 3).I, .list (diffGo 0 (nth ps 4).L (nth ps 5).L)]], fun _ => []⟩
def diffOf (f n w h : Int) (os es : List PV) : VW × Int :=
  if 4096 < (os.length : Int) ∨ 4096 < (es.length : Int) then (VW.no, 2) else if (inB n 0 60 = false ∨ sizeB w h = false) ∨ inB f 0 (n - 1) = false then (VW.no, 4) else if rowsB os w h = false ∨ rowsB es w h = false then (VW.no, 1) else (⟨n, f, false, w, h, diffGo 0 os es⟩, 0)
theorem diff_a {f n w h : Int} {os es : List PV} (h1 : 4096 < (os.length : Int) ∨ 4096 < (es.length : Int)) : diffOf f n w h os es = (VW.no, 2) := if_pos h1
theorem diff_b {f n w h : Int} {os es : List PV} (h1 : (os.length : Int) ≤ 4096) (h2 : (es.length : Int) ≤ 4096) (h3 : (inB n 0 60 = false ∨ sizeB w h = false) ∨ inB f 0 (n - 1) = false) : diffOf f n w h os es = (VW.no, 4) := by
  rw [diffOf, if_neg (by omega), if_pos h3]
theorem diff_c {f n w h : Int} {os es : List PV} (h1 : (os.length : Int) ≤ 4096) (h2 : (es.length : Int) ≤ 4096) (h3 : inB n 0 60 = true) (h4 : sizeB w h = true) (h5 : inB f 0 (n - 1) = true) (h6 : rowsB os w h = false ∨ rowsB es w h = false) : diffOf f n w h os es = (VW.no, 1) := by
  rw [diffOf, if_neg (by omega), if_neg (by simp [h3, h4, h5]), if_pos h6]
theorem diff_d {f n w h : Int} {os es : List PV} (h1 : (os.length : Int) ≤ 4096) (h2 : (es.length : Int) ≤ 4096) (h3 : inB n 0 60 = true) (h4 : sizeB w h = true) (h5 : inB f 0 (n - 1) = true) (h6 : rowsB os w h = true) (h7 : rowsB es w h = true) : diffOf f n w h os es = (⟨n, f, false, w, h, diffGo 0 os es⟩, 0) := by
  rw [diffOf, if_neg (by omega), if_neg (by simp [h3, h4, h5]), if_neg (by simp [h6, h7])]

def c_iDiffView : FSpec := ⟨[(.rd, .int .i64), (.rd, .int .i64), (.rd, .int .i64), (.rd, .int .i64), (.rd, .list .str), (.rd, .list .str)], [.agg [.int .i64, .int .i64, .bool, .int .i64, .int .i64, .list (.agg [.int .i64, .str])], .int .i64], true, fun _ => True,
  fun ps => [(diffOf (nth ps 0).I (nth ps 1).I (nth ps 2).I (nth ps 3).I (nth ps 4).L (nth ps 5).L).1.pv, .int .i64 (diffOf (nth ps 0).I (nth ps 1).I (nth ps 2).I (nth ps 3).I (nth ps 4).L (nth ps 5).L).2], fun _ => []⟩
def c_sDiffView : FSpec := c_iDiffView
theorem diffOf_len (f n w h : Int) (os es : List PV) : (diffOf f n w h os es).1.r.length ≤ es.length := by
  unfold diffOf
  split
  · simp [VW.no]
  · split
    · simp [VW.no]
    · split
      · simp [VW.no]
      · exact diffGo_len _ _ _

def c_exDiffView : FSpec := ⟨[(.rd, .int .i64), (.rd, .int .i64), (.rd, .int .i64), (.rd, .int .i64), (.rd, .list .str), (.rd, .list .str)], [.bool], true, fun _ => True, fun _ => [.bool true], fun _ => []⟩
end Go.Proofs.YtolgjekokdimoaaDoor
end

section
namespace Go.Proofs.YtolgjekokdimoaaDoor
set_option maxRecDepth 100000
set_option linter.unusedSimpArgs false

/-- A mirror. -/
structure MR where
  n : Int
  w : Int
  h : Int
  r : List PV
def MR.pv (m : MR) : PV := .agg [.int .i64 m.n, .int .i64 m.w, .int .i64 m.h, .list m.r]
def MR.no : MR := ⟨0, 0, 0, []⟩
def MR.ls (m : MR) : List PV := [.int .i64 m.n, .int .i64 m.w, .int .i64 m.h, .list m.r]
def VW.ls (v : VW) : List PV := [.int .i64 v.n, .int .i64 v.f, .bool v.u, .int .i64 v.w, .int .i64 v.h, .list v.r]

def putRow (out : List PV) (e : PV) : List PV := out.set (nth e.A 0).I.toNat (.str (nth e.A 1).S)
def putRows (out : List PV) (es : List PV) : List PV := es.foldl putRow out
theorem putRows_snoc {out es : List PV} {i : Nat} (h : i < es.length) : putRows out (es.take (i + 1)) = (putRows out (es.take i)).set (nth (nth es i).A 0).I.toNat (.str (nth (nth es i).A 1).S) := by
  rw [take_nth h, putRows, List.foldl_append]; rfl
theorem putRows_len : ∀ (es out : List PV), (putRows out es).length = out.length
  | [], out => rfl
  | e :: es, out => by
    have := putRows_len es (putRow out e)
    simp only [putRows, List.foldl_cons] at this ⊢
    rw [this, putRow, List.length_set]

theorem up_get {w h : Int} : ∀ {es : List PV} {p : Int}, upB w h p es = true → ∀ i, i < es.length → 0 ≤ (nth (nth es i).A 0).I ∧ (nth (nth es i).A 0).I < h
  | [], p, hu, i, hi => by simp at hi
  | e :: es, p, hu, 0, hi => by
    simp only [upB, Bool.and_eq_true, inB, decide_eq_true_eq] at hu
    rw [nth_zero]; omega
  | e :: es, p, hu, i + 1, hi => by
    simp only [upB, Bool.and_eq_true] at hu
    rw [nth_succ]
    exact up_get hu.2 i (by simpa using hi)
theorem up_len {w h : Int} : ∀ {es : List PV} {p : Int}, upB w h p es = true → p ≤ h - 1 → p + es.length ≤ h - 1
  | [], p, hu, hp => by simp; omega
  | e :: es, p, hu, hp => by
    simp only [upB, Bool.and_eq_true, inB, decide_eq_true_eq] at hu
    have := up_len hu.2 (by omega)
    simp only [List.length_cons]
    omega
/-- Rows that are all there. -/
theorem up_full {w h : Int} : ∀ {es : List PV} {p : Int}, upB w h p es = true → p ≤ h - 1 → p + es.length = h - 1 → ∀ i, i < es.length → (nth (nth es i).A 0).I = p + 1 + i
  | [], p, hu, hp, hl, i, hi => by simp at hi
  | e :: es, p, hu, hp, hl, i, hi => by
    have h0 := hu
    simp only [upB, Bool.and_eq_true, inB, decide_eq_true_eq] at hu
    have h1 := up_len hu.2 (by omega)
    simp only [List.length_cons] at hl hi
    have h2 : (nth e.A 0).I = p + 1 := by omega
    cases i with
    | zero => rw [nth_zero, h2]; simp
    | succ i =>
      rw [nth_succ, up_full hu.2 (by omega) (by omega) i (by omega), h2]; omega
theorem put_full {es out : List PV} (h : ∀ i, i < es.length → (nth (nth es i).A 0).I = i) (hl : out.length = es.length) : ∀ i, i ≤ es.length → (putRows out (es.take i)).take i = (es.take i).map fun e => .str (nth e.A 1).S
  | 0, _ => by simp
  | i + 1, hi => by
    have ih := put_full h hl i (by omega)
    rw [putRows_snoc (by omega), h i (by omega), Int.toNat_natCast, take_nth (by rw [List.length_set, putRows_len]; omega), List.take_set_of_le (Nat.le_refl _), ih, nth_set (by rw [putRows_len]; omega), take_nth (show i < es.length by omega), List.map_append]
    rfl

def acceptOf (m : MR) (v : VW) : MR × Int :=
  if v.n ≤ m.n then (m, 15) else cond v.u (⟨v.n, v.w, v.h, putRows (List.replicate v.h.toNat (.str [])) v.r⟩, 0)
    (if (v.f ≠ m.n ∨ v.w ≠ m.w) ∨ v.h ≠ m.h then (m, 19) else (⟨v.n, m.w, m.h, putRows m.r v.r⟩, 0))
theorem acc_a {m : MR} {v : VW} (h : v.n ≤ m.n) : acceptOf m v = (m, 15) := if_pos h
theorem acc_b {m : MR} {v : VW} (h : m.n < v.n) (hu : v.u = true) : acceptOf m v = (⟨v.n, v.w, v.h, putRows (List.replicate v.h.toNat (.str [])) v.r⟩, 0) := by
  rw [acceptOf, if_neg (by omega), hu]; rfl
theorem acc_c {m : MR} {v : VW} (h : m.n < v.n) (hu : v.u = false) (hd : (v.f ≠ m.n ∨ v.w ≠ m.w) ∨ v.h ≠ m.h) : acceptOf m v = (m, 19) := by
  rw [acceptOf, if_neg (by omega), hu, cond_false, if_pos hd]
theorem acc_d {m : MR} {v : VW} (h : m.n < v.n) (hu : v.u = false) (h1 : v.f = m.n) (h2 : v.w = m.w) (h3 : v.h = m.h) : acceptOf m v = (⟨v.n, m.w, m.h, putRows m.r v.r⟩, 0) := by
  rw [acceptOf, if_neg (by omega), hu, cond_false, if_neg (by simp [h1, h2, h3])]

/-- What a valid mirror and a valid view tell. -/
theorem mv_facts {n w h n' f w' h' : Int} {u : Bool} {rs es : List PV} (hm : mirB [.int .i64 n, .int .i64 w, .int .i64 h, .list rs] = true) (hv : viewB [.int .i64 n', .int .i64 f, .bool u, .int .i64 w', .int .i64 h', .list es] = true) :
    (0 ≤ n' ∧ n' ≤ 60 ∧ 2 ≤ w' ∧ w' ≤ 24 ∧ 2 ≤ h' ∧ h' ≤ 10 ∧ (es.length : Int) ≤ h') ∧ upB w' h' (-1) es = true ∧ (u = true → (es.length : Int) = h') ∧ (h' = h → (rs.length : Int) = h) ∧ rs.length ≤ 10 := by
  have e1 : inB n' 0 60 = true ∧ sizeB w' h' = true ∧ leB es.length h' = true ∧ upB w' h' (-1) es = true ∧ selB u (f == 0 && (es.length : Int) == h') (inB f 0 (n' - 1)) = true := by
    simpa [viewB, nth_zero, nth_succ, pv_I, pv_L, pv_B, and_assoc] using hv
  obtain ⟨h1, h2, h4, h5, h6⟩ := e1
  simp only [inB, sizeB, leB, Bool.and_eq_true, decide_eq_true_eq] at h1 h2 h4
  refine ⟨by omega, h5, fun hu => ?_, fun hh => ?_, ?_⟩
  · subst hu; simp [selB] at h6; exact h6.2
  · subst hh
    by_cases hn : n = -1
    · simp [mirB, nth_zero, nth_succ, pv_I, pv_L, hn] at hm; omega
    · simp [mirB, nth_zero, nth_succ, pv_I, pv_L, hn] at hm
      exact rowsB_len' hm.2
  · by_cases hn : n = -1
    · simp [mirB, nth_zero, nth_succ, pv_I, pv_L, hn] at hm; simp [hm.2]
    · simp [mirB, nth_zero, nth_succ, pv_I, pv_L, hn] at hm
      have := rowsB_len' hm.2
      have h7 := hm.1.2
      simp [sizeB, inB] at h7
      omega

def c_CloneS : FSpec := ⟨[(.rd, .list .str)], [.list .str], true, fun ps => (nth ps 0).L.length ≤ 1048576, fun ps => [.list (nth ps 0).L], fun _ => []⟩
def c_accepted : FSpec := ⟨[(.rd, .agg [.int .i64, .int .i64, .int .i64, .list .str]), (.rd, .agg [.int .i64, .int .i64, .bool, .int .i64, .int .i64, .list (.agg [.int .i64, .str])])], [.agg [.int .i64, .int .i64, .int .i64, .list .str], .int .i64], true, fun ps => mirB (nth ps 0).A = true ∧ viewB (nth ps 1).A = true,
  fun ps => [(acceptOf ⟨(nth (nth ps 0).A 0).I, (nth (nth ps 0).A 1).I, (nth (nth ps 0).A 2).I, (nth (nth ps 0).A 3).L⟩ ⟨(nth (nth ps 1).A 0).I, (nth (nth ps 1).A 1).I, (nth (nth ps 1).A 2).B, (nth (nth ps 1).A 3).I, (nth (nth ps 1).A 4).I, (nth (nth ps 1).A 5).L⟩).1.pv,
    .int .i64 (acceptOf ⟨(nth (nth ps 0).A 0).I, (nth (nth ps 0).A 1).I, (nth (nth ps 0).A 2).I, (nth (nth ps 0).A 3).L⟩ ⟨(nth (nth ps 1).A 0).I, (nth (nth ps 1).A 1).I, (nth (nth ps 1).A 2).B, (nth (nth ps 1).A 3).I, (nth (nth ps 1).A 4).I, (nth (nth ps 1).A 5).L⟩).2], fun _ => []⟩
def acceptAll (m : MR) (v : VW) : MR × Int := if mirB m.ls = false ∨ viewB v.ls = false then (MR.no, 1) else acceptOf m v
theorem accAll_a {m : MR} {v : VW} (h : mirB m.ls = false ∨ viewB v.ls = false) : acceptAll m v = (MR.no, 1) := if_pos h
theorem accAll_b {m : MR} {v : VW} (h : mirB m.ls = true) (h' : viewB v.ls = true) : acceptAll m v = acceptOf m v := if_neg (by simp [h, h'])

def c_iAcceptView : FSpec := ⟨[(.rd, .agg [.int .i64, .int .i64, .int .i64, .list .str]), (.rd, .agg [.int .i64, .int .i64, .bool, .int .i64, .int .i64, .list (.agg [.int .i64, .str])])], [.agg [.int .i64, .int .i64, .int .i64, .list .str], .int .i64], true, fun _ => True,
  fun ps => [(acceptAll ⟨(nth (nth ps 0).A 0).I, (nth (nth ps 0).A 1).I, (nth (nth ps 0).A 2).I, (nth (nth ps 0).A 3).L⟩ ⟨(nth (nth ps 1).A 0).I, (nth (nth ps 1).A 1).I, (nth (nth ps 1).A 2).B, (nth (nth ps 1).A 3).I, (nth (nth ps 1).A 4).I, (nth (nth ps 1).A 5).L⟩).1.pv,
    .int .i64 (acceptAll ⟨(nth (nth ps 0).A 0).I, (nth (nth ps 0).A 1).I, (nth (nth ps 0).A 2).I, (nth (nth ps 0).A 3).L⟩ ⟨(nth (nth ps 1).A 0).I, (nth (nth ps 1).A 1).I, (nth (nth ps 1).A 2).B, (nth (nth ps 1).A 3).I, (nth (nth ps 1).A 4).I, (nth (nth ps 1).A 5).L⟩).2], fun _ => []⟩
def c_l11Own : FSpec := ⟨[(.rd, .agg [.int .i64, .int .i64, .int .i64, .list .str])], [.agg [.int .i64, .int .i64, .int .i64, .list .str]], true, fun ps => (nth (nth ps 0).A 3).L.length ≤ 1048576, fun ps => [nth ps 0], fun _ => []⟩
theorem put_all {w h : Int} {es : List PV} (hu : upB w h (-1) es = true) (hl : (es.length : Int) = h) : putRows (List.replicate h.toNat (.str [])) es = es.map fun e => .str (nth e.A 1).S := by
  have h1 := up_full hu (by omega) (by omega)
  have h2 := put_full (out := List.replicate h.toNat (.str [])) (fun i hi => by rw [h1 i hi]; omega) (by simp; omega) es.length (Nat.le_refl _)
  rwa [List.take_of_length_le (Nat.le_refl _), List.take_of_length_le (by rw [putRows_len]; simp; omega)] at h2

def c_l11Accept : FSpec := { c_accepted with fresh := false }
theorem acc_len {m : MR} {v : VW} (hm : mirB m.ls = true) (hv : viewB v.ls = true) : (acceptOf m v).1.r.length ≤ 10 := by
  obtain ⟨g1, g2, g3, g4, g5⟩ := mv_facts hm hv
  unfold acceptOf
  split
  · exact g5
  · cases v.u
    · rw [cond_false]
      split
      · exact g5
      · show (putRows m.r v.r).length ≤ 10
        rw [putRows_len]; exact g5
    · show (putRows (List.replicate v.h.toNat (.str [])) v.r).length ≤ 10
      rw [putRows_len]; simp; omega
theorem accAll_len (m : MR) (v : VW) : (acceptAll m v).1.r.length ≤ 10 := by
  by_cases h : mirB m.ls = false ∨ viewB v.ls = false
  · rw [accAll_a h]; simp [MR.no]
  · have h1 : mirB m.ls = true := by cases h2 : mirB m.ls with | true => rfl | false => exact absurd (.inl h2) h
    have h3 : viewB v.ls = true := by cases h2 : viewB v.ls with | true => rfl | false => exact absurd (.inr h2) h
    rw [accAll_b h1 h3]; exact acc_len h1 h3

def c_sAcceptView : FSpec := c_iAcceptView
theorem eqMir_refl (v : List PV) : eqMir v v = true := by simp [eqMir, eqS_refl]

def c_exAcceptView : FSpec := ⟨[(.rd, .agg [.int .i64, .int .i64, .int .i64, .list .str]), (.rd, .agg [.int .i64, .int .i64, .bool, .int .i64, .int .i64, .list (.agg [.int .i64, .str])])], [.bool], true, fun _ => True, fun _ => [.bool true], fun _ => []⟩
end Go.Proofs.YtolgjekokdimoaaDoor
end

section
namespace Go.Proofs.YtolgjekokdimoaaDoor
set_option maxRecDepth 100000
set_option linter.unusedSimpArgs false

def szC2 (l : Int) (a b : Nat) (es : List PV) : Int := if l - a < 0 then -1 else if l - a - b < 0 then -1 else szStr es (l - a - b)
def szCli (c : List PV) (l : Int) : Int := szC2 l (nth c 1).S.length (nth c 2).S.length (nth c 6).L
theorem szC2_le {l : Int} {a b : Nat} {es : List PV} (h : 0 ≤ l) : szC2 l a b es ≤ l ∧ -1 ≤ szC2 l a b es ∧ (0 ≤ szC2 l a b es → (es.length : Int) ≤ l ∧ (a : Int) ≤ l ∧ (b : Int) ≤ l) := by
  unfold szC2
  split
  · omega
  · split
    · omega
    · have := szStr_le (es := es) (l := l - a - b) (by omega)
      omega
def c_szClient : FSpec := ⟨[(.rd, .agg [.int .i64, .str, .str, .int .i64, .int .i64, .int .i64, .list .str]), (.rd, .int .i64)], [.int .i64], true, fun ps => 0 ≤ (nth ps 1).I, fun ps => [.int .i64 (szCli (nth ps 0).A (nth ps 1).I)], fun _ => []⟩
theorem k_szClient : FnOk Tryd.prog 14 c_szClient := by
  refine fn_mk [0, 1, 2, 4] [.tmp 4] (env_cons (cs := []) k_szMirror (env_nil (tyTab_ok []))) mixed Tryd.func14 rfl (by decide) rfl (by decide) rfl ?_
  intro ps hT hpre W hW
  simp only [c_szClient, TyA, Ty, Tys] at hT hpre
  obtain ⟨_, _, rfl, ⟨_, rfl, _, _, rfl, ⟨c, rfl, hc⟩, _, _, rfl, ⟨t, rfl, ht⟩, _, _, rfl, ⟨k, rfl, hk⟩, _, _, rfl, ⟨n, rfl, hn⟩, _, _, rfl, ⟨w, rfl, hw⟩, _, _, rfl, ⟨h, rfl, hh⟩, _, _, rfl, ⟨rs, rfl, hrs, trs⟩, rfl⟩, _, _, rfl, ⟨l, rfl, hl⟩, rfl⟩ := hT
  simp only [nth_zero, nth_succ, pv_I] at hpre
  refine hW.vc [] _ _ ?_
  simp [-List.getD_eq_getElem?_getD, c_szClient, c_szMirror]
  intro ht
  have hl2 : l ≤ 9223372036854775807 := hl.2
  rw [wrap64 (n := l - t.length) (by omega)]
  simp only [szCli, nth_zero, nth_succ, pv_S, pv_L]
  simp only [szC2]
  refine ⟨fun h1 => by rw [if_pos h1], fun h1 hk => ?_⟩
  rw [wrap64 (n := l - t.length - k.length) (by omega), if_neg (by omega)]
  refine ⟨fun h2 => by rw [if_pos h2], fun h2 => ?_⟩
  rw [if_neg (by omega)]
  have h3 := szStr_le (es := rs) h2
  exact ⟨h2, fun h4 => by omega, fun _ => rfl⟩
def c_toClient : FSpec := ⟨[(.rd, .agg [.int .i64, .str, .str, .int .i64, .int .i64, .int .i64, .list .str])], [.agg [.int .i64, .str, .str, .int .i64, .int .i64, .int .i64, .list .str]], true, fun ps => (nth (nth ps 0).A 6).L.length ≤ 1048576, fun ps => [nth ps 0], fun _ => []⟩
theorem k_toClient : FnOk Tryd.prog 16 c_toClient := by
  refine fn_mk [0, 1, 2, 3] [.cell 2 29] (env_cons (cs := []) k_toMirror (env_nil (tyTab_ok []))) mixed Tryd.func16 rfl (by decide) rfl (by decide) rfl ?_
  intro ps hT hpre W hW
  simp only [c_toClient, TyA, Ty, Tys] at hT hpre
  obtain ⟨_, _, rfl, ⟨_, rfl, _, _, rfl, ⟨c, rfl, hc⟩, _, _, rfl, ⟨t, rfl, ht⟩, _, _, rfl, ⟨k, rfl, hk⟩, _, _, rfl, ⟨n, rfl, hn⟩, _, _, rfl, ⟨w, rfl, hw⟩, _, _, rfl, ⟨h, rfl, hh⟩, _, _, rfl, ⟨rs, rfl, hrs, trs⟩, rfl⟩, rfl⟩ := hT
  simp only [nth_zero, nth_succ, pv_A, pv_L] at hpre
  refine hW.vc [] _ _ ?_
  simp [-List.getD_eq_getElem?_getD, c_toClient, c_toMirror]
  exact hpre
def eqCli (a b : List PV) : Bool := (nth a 0).I == (nth b 0).I && (nth a 1).S == (nth b 1).S && (nth a 2).S == (nth b 2).S && eqMir [nth a 3, nth a 4, nth a 5, nth a 6] [nth b 3, nth b 4, nth b 5, nth b 6]
theorem eqCli_refl (a : List PV) : eqCli a a = true := by simp [eqCli, eqMir_refl]
def c_eqClient : FSpec := ⟨[(.rd, .agg [.int .i64, .str, .str, .int .i64, .int .i64, .int .i64, .list .str]), (.rd, .agg [.int .i64, .str, .str, .int .i64, .int .i64, .int .i64, .list .str])], [.bool], true, fun _ => True, fun ps => [.bool (eqCli (nth ps 0).A (nth ps 1).A)], fun _ => []⟩
theorem k_eqClient : FnOk Tryd.prog 11 c_eqClient := by
  refine fn_mk [0, 1, 2, 3, 4] [.tmp 4] (env_cons (cs := []) k_eqMirror (env_nil (tyTab_ok []))) mixed Tryd.func11 rfl (by decide) rfl (by decide) rfl ?_
  intro ps hT hpre W hW
  simp only [c_eqClient, TyA, Ty, Tys] at hT hpre
  obtain ⟨_, _, rfl, ⟨_, rfl, _, _, rfl, ⟨c, rfl, hc⟩, _, _, rfl, ⟨t, rfl, ht⟩, _, _, rfl, ⟨k, rfl, hk⟩, _, _, rfl, ⟨n, rfl, hn⟩, _, _, rfl, ⟨w, rfl, hw⟩, _, _, rfl, ⟨h, rfl, hh⟩, _, _, rfl, ⟨rs, rfl, hrs, trs⟩, rfl⟩, _, _, rfl, ⟨_, rfl, _, _, rfl, ⟨c', rfl, hc'⟩, _, _, rfl, ⟨t', rfl, ht'⟩, _, _, rfl, ⟨k', rfl, hk'⟩, _, _, rfl, ⟨n', rfl, hn'⟩, _, _, rfl, ⟨w', rfl, hw'⟩, _, _, rfl, ⟨h', rfl, hh'⟩, _, _, rfl, ⟨rs', rfl, hrs', trs'⟩, rfl⟩, rfl⟩ := hT
  refine hW.vc [] _ _ ?_
  simp [-List.getD_eq_getElem?_getD, c_eqClient, c_eqMirror]
  simp only [eqCli, nth_zero, nth_succ, pv_I, pv_S]
  exact ⟨fun q1 => by simp [q1], fun q1 => ⟨fun q2 => by simp [q2], fun q2 => ⟨fun q3 => by simp [q3], fun q3 => ⟨fun q4 => by simp [q4], fun q4 => by simp [q1, q2, q3, q4]⟩⟩⟩⟩
def c_markClient : FSpec := ⟨[(.mt, .agg [.int .i64, .str, .str, .int .i64, .int .i64, .int .i64, .list .str]), (.rd, .int .i64)], [.int .i64], true, fun ps => 0 ≤ (nth ps 1).I ∧ (nth ps 1).I + (nth (nth ps 0).A 6).L.length ≤ 1073741823, fun ps => [.int .i64 ((nth ps 1).I + (nth (nth ps 0).A 6).L.length)],
  fun ps => [.agg [nth (nth ps 0).A 0, nth (nth ps 0).A 1, nth (nth ps 0).A 2, nth (nth ps 0).A 3, nth (nth ps 0).A 4, nth (nth ps 0).A 5, .list (markS (nth ps 1).I (nth (nth ps 0).A 6).L.length)]]⟩
theorem k_markClient : FnOk Tryd.prog 12 c_markClient := by
  refine fn_mk [0, 1, 2, 4] [.tmp 4] (env_cons (cs := []) k_markMirror (env_nil (tyTab_ok []))) mixed Tryd.func12 rfl (by decide) rfl (by decide) rfl ?_
  intro ps hT hpre W hW
  simp only [c_markClient, TyA, Ty, Tys] at hT hpre
  obtain ⟨_, _, rfl, ⟨_, rfl, _, _, rfl, ⟨c, rfl, hc⟩, _, _, rfl, ⟨t, rfl, ht⟩, _, _, rfl, ⟨k, rfl, hk⟩, _, _, rfl, ⟨n, rfl, hn⟩, _, _, rfl, ⟨w, rfl, hw⟩, _, _, rfl, ⟨h, rfl, hh⟩, _, _, rfl, ⟨rs, rfl, hrs, trs⟩, rfl⟩, _, _, rfl, ⟨m, rfl, hm⟩, rfl⟩ := hT
  simp only [nth_zero, nth_succ, pv_I, pv_L, pv_A] at hpre
  refine hW.vc [] _ _ ?_
  simp [-List.getD_eq_getElem?_getD, c_markClient, c_markMirror]
  exact hpre
def c_heldClient : FSpec := ⟨[(.rd, .agg [.int .i64, .str, .str, .int .i64, .int .i64, .int .i64, .list .str]), (.rd, .int .i64)], [.int .i64], true, fun ps => 0 ≤ (nth ps 1).I ∧ (nth ps 1).I + (nth (nth ps 0).A 6).L.length ≤ 1073741823, fun ps => [.int .i64 (heldGo heldS1 1 (nth ps 1).I (nth (nth ps 0).A 6).L)], fun _ => []⟩
theorem k_heldClient : FnOk Tryd.prog 13 c_heldClient := by
  refine fn_mk [0, 1, 2, 4] [.tmp 4] (env_cons (cs := []) k_heldMirror (env_nil (tyTab_ok []))) mixed Tryd.func13 rfl (by decide) rfl (by decide) rfl ?_
  intro ps hT hpre W hW
  simp only [c_heldClient, TyA, Ty, Tys] at hT hpre
  obtain ⟨_, _, rfl, ⟨_, rfl, _, _, rfl, ⟨c, rfl, hc⟩, _, _, rfl, ⟨t, rfl, ht⟩, _, _, rfl, ⟨k, rfl, hk⟩, _, _, rfl, ⟨n, rfl, hn⟩, _, _, rfl, ⟨w, rfl, hw⟩, _, _, rfl, ⟨h, rfl, hh⟩, _, _, rfl, ⟨rs, rfl, hrs, trs⟩, rfl⟩, _, _, rfl, ⟨m, rfl, hm⟩, rfl⟩ := hT
  simp only [nth_zero, nth_succ, pv_I, pv_L, pv_A] at hpre
  refine hW.vc [] _ _ ?_
  simp [-List.getD_eq_getElem?_getD, c_heldClient, c_heldMirror]
  exact ⟨hpre, fun h1 => (held_neg (by omega) (by omega) h1).symm⟩

end Go.Proofs.YtolgjekokdimoaaDoor
end

section
namespace Go.Proofs.YtolgjekokdimoaaDoor
set_option maxRecDepth 100000
set_option linter.unusedSimpArgs false

theorem told_0 (c : Int) (t : List UInt8) : toldB c t 0 = toldB c t (-1) := by simp [toldB, inB]
/-- A client that has shown nothing yet. -/
def cliL (key : List UInt8) (c : Int) (t : List UInt8) : List PV := [.int .i64 c, .str t, .str (tokenL key c t (-1)), .int .i64 (-1), .int .i64 0, .int .i64 0, .list []]
def cliZ : List PV := [.int .i64 0, .str [], .str [], .int .i64 0, .int .i64 0, .int .i64 0, .list []]
def c_newClient : FSpec := ⟨[(.rd, .str), (.rd, .int .i64), (.rd, .str)], [.agg [.int .i64, .str, .str, .int .i64, .int .i64, .int .i64, .list .str]], true, fun ps => (nth ps 0).S.length ≤ 1000000 ∧ toldP (nth ps 1).I (nth ps 2).S (-1), fun ps => [.agg [.int .i64 (nth ps 1).I, .str (nth ps 2).S, .str (tokenL (nth ps 0).S (nth ps 1).I (nth ps 2).S (-1)), .int .i64 (-1), .int .i64 0, .int .i64 0, .list []]], fun _ => []⟩
theorem k_newClient : FnOk Tryd.prog 27 c_newClient := by
  refine fn_mk [0, 1, 2, 6] [.cell 6 29] (env_cons (cs := []) k_tokenOf (env_nil (tyTab_ok []))) mixed Tryd.func27 rfl (by decide) rfl (by decide) rfl ?_
  intro ps hT hpre W hW
  simp only [c_newClient, TyA, Ty, Tys] at hT hpre
  obtain ⟨_, _, rfl, ⟨key, rfl, hkey⟩, _, _, rfl, ⟨c, rfl, hc⟩, _, _, rfl, ⟨t, rfl, ht⟩, rfl⟩ := hT
  simp only [nth_zero, nth_succ, pv_I, pv_S] at hpre
  refine hW.vc [] _ _ ?_
  simp [-List.getD_eq_getElem?_getD, c_newClient, c_tokenOf]
  exact hpre
def c_l13New : FSpec := c_newClient
theorem k_l13New : FnOk Tryd.prog 26 c_l13New := by
  refine fn_mk [0, 1, 2, 6] [.cell 6 29] (env_cons (cs := []) k_l12Issue (env_nil (tyTab_ok []))) mixed Tryd.func26 rfl (by decide) rfl (by decide) rfl ?_
  intro ps hT hpre W hW
  simp only [c_l13New, TyA, Ty, Tys] at hT hpre
  simp only [c_newClient, TyA, Ty, Tys] at hT hpre
  obtain ⟨_, _, rfl, ⟨key, rfl, hkey⟩, _, _, rfl, ⟨c, rfl, hc⟩, _, _, rfl, ⟨t, rfl, ht⟩, rfl⟩ := hT
  simp only [nth_zero, nth_succ, pv_I, pv_S] at hpre
  refine hW.vc [] _ _ ?_
  simp [-List.getD_eq_getElem?_getD, c_l13New, c_l12Issue, c_newClient, c_tokenOf, c_tokenOf]
  exact hpre
def newK (key : List UInt8) (c : Int) (t : List UInt8) : Int := if longB key t = true then 2 else if toldB c t (-1) = true then 0 else 1
def newI (key : List UInt8) (c : Int) (t : List UInt8) : Int := if newK key c t = 0 then c else 0
def newW (key : List UInt8) (c : Int) (t : List UInt8) : List UInt8 := if newK key c t = 0 then t else []
def newT (key : List UInt8) (c : Int) (t : List UInt8) : List UInt8 := if newK key c t = 0 then tokenL key c t (-1) else []
def newM (key : List UInt8) (c : Int) (t : List UInt8) : Int := if newK key c t = 0 then -1 else 0
def c_NewClient : FSpec := ⟨[(.rd, .str), (.rd, .int .i64), (.rd, .str)], [.agg [.int .i64, .str, .str, .int .i64, .int .i64, .int .i64, .list .str], .int .i64], true, fun _ => True, fun ps => [.agg [.int .i64 (newI (nth ps 0).S (nth ps 1).I (nth ps 2).S), .str (newW (nth ps 0).S (nth ps 1).I (nth ps 2).S), .str (newT (nth ps 0).S (nth ps 1).I (nth ps 2).S), .int .i64 (newM (nth ps 0).S (nth ps 1).I (nth ps 2).S), .int .i64 0, .int .i64 0, .list []], .int .i64 (newK (nth ps 0).S (nth ps 1).I (nth ps 2).S)], fun _ => []⟩
theorem new_a {key : List UInt8} {c : Int} {t : List UInt8} (hb : longB key t = true) : newK key c t = 2 := by rw [newK, if_pos hb]
theorem new_b {key : List UInt8} {c : Int} {t : List UInt8} (hb : longB key t = false) (h : toldB c t (-1) = true) : newK key c t = 0 := by rw [newK, if_neg (by rw [hb]; decide), if_pos h]
theorem new_c {key : List UInt8} {c : Int} {t : List UInt8} (hb : longB key t = false) (h : toldB c t (-1) = false) : newK key c t = 1 := by rw [newK, if_neg (by rw [hb]; decide), if_neg (by rw [h]; decide)]
theorem k_NewClient : FnOk Tryd.prog 10 c_NewClient := by
  refine fn_mk [0, 1, 2, 6, 7] [.cell 6 29, .tmp 7] (env_cons (cs := []) k_newClient (env_cons (cs := []) k_isTold (env_cons (cs := []) k_isLong (env_nil (tyTab_ok []))))) mixed Tryd.func10 rfl (by decide) rfl (by decide) rfl ?_
  intro ps hT hpre W hW
  simp only [c_NewClient, TyA, Ty, Tys] at hT hpre
  obtain ⟨_, _, rfl, ⟨key, rfl, hkey⟩, _, _, rfl, ⟨c, rfl, hc⟩, _, _, rfl, ⟨t, rfl, ht⟩, rfl⟩ := hT
  refine hW.vc [] _ _ ?_
  simp [-List.getD_eq_getElem?_getD, c_NewClient, c_isLong, c_isTold, c_newClient]
  refine fun _ _ => ⟨by decide, fun h => ?_, fun h1 h2 => ⟨fun h3 => ?_, fun h3 => ?_⟩⟩
  · have hb : longB key t = true := by rcases h with h | h <;> simp [longB, h]
    have e := new_a (c := c) hb
    simp [newI, newW, newT, newM, e]
  · have hb : longB key t = false := by simp [longB, h1, h2]
    have e := new_c hb h3
    simp [newI, newW, newT, newM, e]
  · have hb : longB key t = false := by simp [longB, h1, h2]
    have e := new_b hb h3
    have hp := toldB_P h3
    have hk : key.length ≤ 65536 := by simp [longN] at h1; omega
    exact ⟨⟨by omega, hp⟩, by simp [newI, newW, newT, newM, e]⟩
def c_sNewClient : FSpec := c_NewClient
theorem k_sNewClient : FnOk Tryd.prog 9 c_sNewClient := by
  refine fn_mk [0, 1, 2, 6, 7] [.cell 6 29, .tmp 7] (env_cons (cs := []) k_l13New (env_cons (cs := []) k_l12Ask (env_nil (tyTab_ok [])))) mixed Tryd.func9 rfl (by decide) rfl (by decide) rfl ?_
  intro ps hT hpre W hW
  simp only [c_sNewClient, TyA, Ty, Tys] at hT hpre
  simp only [c_NewClient, TyA, Ty, Tys] at hT
  obtain ⟨_, _, rfl, ⟨key, rfl, hkey⟩, _, _, rfl, ⟨c, rfl, hc⟩, _, _, rfl, ⟨t, rfl, ht⟩, rfl⟩ := hT
  refine hW.vc [] _ _ ?_
  simp [-List.getD_eq_getElem?_getD, c_sNewClient, c_l12Ask, c_l13New, c_NewClient, c_isTold, c_newClient, c_isTold, c_newClient]
  refine fun _ _ => ⟨fun h => ?_, fun h1 h2 => ⟨fun h3 => ?_, fun h3 => ?_⟩⟩
  · have hb : longB key t = true := by simp [longB, longN]; omega
    have e := new_a (c := c) hb
    simp [newI, newW, newT, newM, e]
  · have hb : longB key t = false := by simp [longB, longN]; omega
    rw [told_0] at h3
    have e := new_c hb h3
    simp [newI, newW, newT, newM, e]
  · have hb : longB key t = false := by simp [longB, longN]; omega
    rw [told_0] at h3
    have e := new_b hb h3
    exact ⟨⟨by omega, toldB_P h3⟩, by simp [newI, newW, newT, newM, e]⟩
def cliB (key : List UInt8) (c : List PV) : Bool := toldB (nth c 0).I (nth c 1).S (-1) && mirB [nth c 3, nth c 4, nth c 5, nth c 6] && (nth c 2).S == tokenL key (nth c 0).I (nth c 1).S (nth c 3).I
theorem mirB_n {n w h : Int} {rs : List PV} (hm : mirB [.int .i64 n, .int .i64 w, .int .i64 h, .list rs] = true) : -1 ≤ n ∧ n ≤ 60 := by
  by_cases hn : n = -1
  · omega
  · simp [mirB, nth_zero, nth_succ, pv_I, pv_L, hn] at hm
    have h1 := hm.1.1
    simp [inB] at h1
    omega
theorem told_n {c n : Int} {t : List UInt8} (h : toldB c t (-1) = true) (h1 : -1 ≤ n) (h2 : n ≤ 60) : toldP c t n := by
  obtain ⟨q1, q2, q3, q4, q5⟩ := toldB_P h
  exact ⟨q1, q2, q3, h1, h2⟩
def c_isClient : FSpec := ⟨[(.rd, .str), (.rd, .agg [.int .i64, .str, .str, .int .i64, .int .i64, .int .i64, .list .str])], [.bool], true, fun ps => (nth ps 0).S.length ≤ 1000000, fun ps => [.bool (cliB (nth ps 0).S (nth ps 1).A)], fun _ => []⟩
theorem k_isClient : FnOk Tryd.prog 34 c_isClient := by
  refine fn_mk [0, 1, 3, 4] [.tmp 4] (env_cons (cs := []) k_tokenOf (env_cons (cs := []) k_isMirror (env_cons (cs := []) k_isTold (env_nil (tyTab_ok []))))) mixed Tryd.func34 rfl (by decide) rfl (by decide) rfl ?_
  intro ps hT hpre W hW
  simp only [c_isClient, TyA, Ty, Tys] at hT hpre
  obtain ⟨_, _, rfl, ⟨key, rfl, hkey⟩, _, _, rfl, ⟨_, rfl, _, _, rfl, ⟨c, rfl, hc⟩, _, _, rfl, ⟨t, rfl, ht⟩, _, _, rfl, ⟨k, rfl, hk⟩, _, _, rfl, ⟨n, rfl, hn⟩, _, _, rfl, ⟨w, rfl, hw⟩, _, _, rfl, ⟨h, rfl, hh⟩, _, _, rfl, ⟨rs, rfl, hrs, trs⟩, rfl⟩, rfl⟩ := hT
  simp only [nth_zero, nth_succ, pv_S] at hpre
  refine hW.vc [(1, [], .take 0 <| .take 1 <| .take 2 <| .take 3 <| .alt 4 (.take 5 <| .take 6 <| .take 7 <| .alt 8 (.take 9 <| .take 10 <| .take 11 <| .take 12 <| .take 13 <| .take 14 <| .take 15 <| .take 16 <| .take 17 <| .take 18 <| .take 19 <| .take 20 <| .alt 21 (.take 22 <| .take 23 <| .alt 24 (.done) .stop) .stop) .stop) .stop)] _ _ ?_
  simp [-List.getD_eq_getElem?_getD, c_isClient, c_isTold, c_isMirror, c_tokenOf]
  exact ⟨by decide +kernel, fun h1 h2 => ⟨hpre, told_n h1 (mirB_n h2).1 (mirB_n h2).2⟩, rfl⟩
def okCli (key : List UInt8) (c : List PV) : Bool := !longN key.length && cliB key c
def c_ClientOK : FSpec := ⟨[(.rd, .str), (.rd, .agg [.int .i64, .str, .str, .int .i64, .int .i64, .int .i64, .list .str])], [.bool], true, fun _ => True, fun ps => [.bool (okCli (nth ps 0).S (nth ps 1).A)], fun _ => []⟩
theorem k_ClientOK : FnOk Tryd.prog 17 c_ClientOK := by
  refine fn_mk [0, 1, 3, 4] [.tmp 4] (env_cons (cs := []) k_isClient (env_cons (cs := []) k_isLong (env_nil (tyTab_ok [])))) mixed Tryd.func17 rfl (by decide) rfl (by decide) rfl ?_
  intro ps hT hpre W hW
  simp only [c_ClientOK, TyA, Ty, Tys] at hT hpre
  obtain ⟨_, _, rfl, ⟨key, rfl, hkey⟩, _, _, rfl, ⟨_, rfl, _, _, rfl, ⟨c, rfl, hc⟩, _, _, rfl, ⟨t, rfl, ht⟩, _, _, rfl, ⟨k, rfl, hk⟩, _, _, rfl, ⟨n, rfl, hn⟩, _, _, rfl, ⟨w, rfl, hw⟩, _, _, rfl, ⟨h, rfl, hh⟩, _, _, rfl, ⟨rs, rfl, hrs, trs⟩, rfl⟩, rfl⟩ := hT
  refine hW.vc [] _ _ ?_
  simp [-List.getD_eq_getElem?_getD, c_ClientOK, c_isLong, c_isClient]
  exact fun hk => ⟨fun h => by simp [longN] at h; omega, rfl⟩
def c_sClientOK : FSpec := c_ClientOK
theorem k_sClientOK : FnOk Tryd.prog 15 c_sClientOK := by
  refine fn_mk [0, 1, 3, 4] [.tmp 4] (env_cons (cs := []) k_l12Issue (env_cons (cs := []) k_sMirrorOK (env_cons (cs := []) k_l12Ask (env_nil (tyTab_ok []))))) mixed Tryd.func15 rfl (by decide) rfl (by decide) rfl ?_
  intro ps hT hpre W hW
  simp only [c_sClientOK, TyA, Ty, Tys] at hT hpre
  simp only [c_ClientOK, TyA, Ty, Tys] at hT
  obtain ⟨_, _, rfl, ⟨key, rfl, hkey⟩, _, _, rfl, ⟨_, rfl, _, _, rfl, ⟨c, rfl, hc⟩, _, _, rfl, ⟨t, rfl, ht⟩, _, _, rfl, ⟨k, rfl, hk⟩, _, _, rfl, ⟨n, rfl, hn⟩, _, _, rfl, ⟨w, rfl, hw⟩, _, _, rfl, ⟨h, rfl, hh⟩, _, _, rfl, ⟨rs, rfl, hrs, trs⟩, rfl⟩, rfl⟩ := hT
  refine hW.vc [(3, [], .take 0 <| .take 1 <| .take 2 <| .take 3 <| .take 4 <| .take 5 <| .take 6 <| .take 7 <| .alt 8 (.take 9 <| .take 10 <| .take 11 <| .take 12 <| .alt 13 (.take 14 <| .take 15 <| .take 16 <| .take 17 <| .take 18 <| .take 19 <| .take 20 <| .take 21 <| .take 22 <| .take 23 <| .take 24 <| .take 25 <| .alt 26 (.take 27 <| .take 28 <| .alt 29 (.done) .stop) .stop) .stop) .stop)] _ _ ?_
  simp [-List.getD_eq_getElem?_getD, c_sClientOK, c_l12Ask, c_sMirrorOK, c_l12Issue, c_ClientOK, c_isTold, c_isMirror, c_tokenOf, c_isTold, c_isMirror, c_tokenOf]
  refine fun hk => ⟨fun h => ?_, fun h => ⟨by decide +kernel, fun _ => ⟨fun _ h2 h3 => ⟨by omega, told_n (by rw [← told_0]; exact h2) (mirB_n h3).1 (mirB_n h3).2⟩, ?_⟩⟩⟩
  · have : longN key.length = true := by simp [longN]; omega
    simp [okCli, this]
  · have : longN key.length = false := by simp [longN]; omega
    have h' : decide ((key.length : Int) ≤ 65536) = true := decide_eq_true h
    rw [told_0, h']
    simp [okCli, cliB, this, nth_zero, nth_succ, pv_I, pv_S]
def c_exNewClient : FSpec := ⟨[(.rd, .str), (.rd, .int .i64), (.rd, .str)], [.bool], true, fun _ => True, fun _ => [.bool true], fun _ => []⟩
theorem k_exNewClient : FnOk Tryd.prog 4 c_exNewClient := by
  refine fn_mk [0, 1, 2, 6, 7, 8, 9, 10, 11, 12, 13, 14] [.tmp 6] (env_cons (cs := []) k_heldClient (env_cons (cs := []) k_markClient (env_cons (cs := []) k_eqClient (env_cons (cs := []) k_NewClient (env_cons (cs := []) k_sNewClient (env_nil (tyTab_ok []))))))) mixed Tryd.func4 rfl (by decide) rfl (by decide) rfl ?_
  intro ps hT hpre W hW
  simp only [c_exNewClient, TyA, Ty, Tys] at hT hpre
  obtain ⟨_, _, rfl, ⟨key, rfl, hkey⟩, _, _, rfl, ⟨c, rfl, hc⟩, _, _, rfl, ⟨t, rfl, ht⟩, rfl⟩ := hT
  refine hW.vc [] _ _ ?_
  simp [-List.getD_eq_getElem?_getD, c_exNewClient, c_sNewClient, c_NewClient, c_eqClient, c_markClient, c_heldClient, c_NewClient, eqCli_refl, heldS_mark, markS_len]
def c_exClientOK : FSpec := ⟨[(.rd, .str), (.rd, .agg [.int .i64, .str, .str, .int .i64, .int .i64, .int .i64, .list .str])], [.bool], true, fun _ => True, fun _ => [.bool true], fun _ => []⟩
theorem k_exClientOK : FnOk Tryd.prog 5 c_exClientOK := by
  refine fn_mk [0, 1, 3, 4, 5, 6, 7, 8] [.tmp 4] (env_cons (cs := []) k_eqClient (env_cons (cs := []) k_ClientOK (env_cons (cs := []) k_sClientOK (env_cons (cs := []) k_toClient (env_cons (cs := []) k_szClient (env_nil (tyTab_ok []))))))) mixed Tryd.func5 rfl (by decide) rfl (by decide) rfl ?_
  intro ps hT hpre W hW
  simp only [c_exClientOK, TyA, Ty, Tys] at hT hpre
  obtain ⟨_, _, rfl, ⟨key, rfl, hkey⟩, _, _, rfl, ⟨_, rfl, _, _, rfl, ⟨c, rfl, hc⟩, _, _, rfl, ⟨t, rfl, ht⟩, _, _, rfl, ⟨k, rfl, hk⟩, _, _, rfl, ⟨n, rfl, hn⟩, _, _, rfl, ⟨w, rfl, hw⟩, _, _, rfl, ⟨h, rfl, hh⟩, _, _, rfl, ⟨rs, rfl, hrs, trs⟩, rfl⟩, rfl⟩ := hT
  refine hW.vc [(12, [], .take 0 <| .take 1 <| .alt 2 (.alt 3 (.take 4 <| .done) .stop) .stop)] _ _ ?_
  simp [-List.getD_eq_getElem?_getD, c_exClientOK, c_szClient, c_toClient, c_sClientOK, c_ClientOK, c_eqClient, c_ClientOK, eqCli_refl]
  intro hk h1 h2
  have h3 := (szC2_le (l := 1048576) (a := t.length) (b := k.length) (es := rs) (by omega)).2.2 h2
  exact ⟨by omega, by decide +kernel, by omega⟩

end Go.Proofs.YtolgjekokdimoaaDoor
end

section
namespace Go.Proofs.YtolgjekokdimoaaDoor
set_option linter.unusedVariables false

def ptyOf (g : Bool) (l : List PTy) : PTy := if g then .agg l else l.headD .opq

mutual
/-- The types of data: their leaves. -/
inductive Dat (P : Program) : Nat → Bool → List PTy → Prop
  | int {t k} : P.underlying t = some (.int k) → t < P.types.size → Dat P t false [.int k]
  | bool {t} : P.underlying t = some .bool → t < P.types.size → Dat P t false [.bool]
  | str {t} : P.underlying t = some .string → t < P.types.size → Dat P t false [.str]
  | slice {t e g l} : P.underlying t = some (.slice e) → Dat P e g l → P.cellsOf e = l.length → 0 < l.length → 0 < P.bytesOf e → t < P.types.size → Dat P t false [.list (ptyOf g l)]
  | struct {t fs l} : P.underlying t = some (.struct fs) → Dats P (fs.toList.map (·.type)) l → P.cellsOf t = l.length → t < P.types.size → Dat P t true l
inductive Dats (P : Program) : List Nat → List PTy → Prop
  | nil : Dats P [] []
  | cons {t ts g l m} : Dat P t g l → P.cellsOf t = l.length → Dats P ts m → Dats P (t :: ts) (l ++ m)
end

section
variable {H : Type} {enc : TypeId × Value → H} {P : Program} {w : World} {base : Nat} {spare : Nat → Bool}

theorem Dat.lt {t : Nat} {g : Bool} {l : List PTy} (h : Dat P t g l) : t < P.types.size := by
  cases h <;> assumption

theorem dat_leaf {t : Nat} {l : List PTy} (h : Dat P t false l) : ∃ T, l = [T] ∧ ∀ ts, T ≠ .agg ts := by
  cases h <;> exact ⟨_, rfl, by simp⟩

theorem cells_get {base : Nat} {a : Addr} {n : Nat} {cs : List Value} (h : w.cells? base a n = some cs) : cs.length = n ∧ ∀ i, i < n → w.cell? (a.add i) = cs[i]? := by
  unfold World.cells? at h
  split at h
  · refine ⟨by simpa using mapM_some_length h, fun i hi => ?_⟩
    have := mapM_some_get h i i (by simp [hi])
    exact this
  · cases h

theorem lim_reach {n : Nat} (h : n ≤ reachBytes) : n ≤ LIM := by
  unfold reachBytes at h; unfold LIM; omega

/-- Elements, one after the other. -/
theorem elems_lv {g : Bool} {l : List PTy} {T : PTy} (hT : T = ptyOf g l) (hg : g = false → ∃ T, l = [T] ∧ ∀ ts, T ≠ .agg ts) : ∀ (css : List (List Value)), (∀ cs ∈ css, ∃ qs f, Lv w l qs cs f) →
    ∃ es f, es.length = css.length ∧ (∀ e ∈ es, Shp T e) ∧ Lv w (flatT T es.length) (flatP es) css.flatten f ∧ T.leaves = l
  | [], _ => ⟨[], [], rfl, by simp, by simpa [flatT, flatP] using Lv.nil, by
      subst hT
      cases g with
      | true => rfl
      | false => obtain ⟨T, rfl, h⟩ := hg rfl; cases T <;> first | rfl | exact absurd rfl (h _)⟩
  | cs :: css, h => by
    obtain ⟨es, f, e1, e2, e3, e4⟩ := elems_lv hT hg css fun x hx => h x (by simp [hx])
    obtain ⟨qs, f1, hq⟩ := h cs (by simp)
    have key : ∃ e, Shp T e ∧ e.leaves = qs := by
      subst hT
      cases g with
      | true => exact ⟨.agg qs, ⟨qs, rfl, hq.lens.1.symm⟩, rfl⟩
      | false =>
        obtain ⟨T, rfl, hn⟩ := hg rfl
        have hl := hq.lens.1
        match qs, hl with
        | [q], _ =>
          have hne := hq.leaves_of q (by simp)
          refine ⟨q, ?_, ?_⟩
          · show Shp T q
            cases T <;> first | exact hne | exact absurd rfl (hn _)
          · cases q <;> first | rfl | exact absurd rfl (hne _)
    obtain ⟨e, k1, k2⟩ := key
    refine ⟨e :: es, f1 ++ f, by simp [e1], ?_, ?_, e4⟩
    · intro x hx; rcases List.mem_cons.1 hx with rfl | hx
      · exact k1
      · exact e2 x hx
    · have q1 : flatT T (e :: es).length = T.leaves ++ flatT T es.length := by simp [flatT, List.replicate_succ]
      have q2 : flatP (e :: es) = e.leaves ++ flatP es := by simp [flatP]
      rw [q1, q2, e4, k2, List.flatten_cons]
      exact hq.append e3

theorem wf_inR {k : IntKind} {n : Int} (h : (Lit.int k n).wf = true) : inR k n := by
  unfold Lit.wf at h; unfold inR
  simpa only [Bool.and_eq_true, decide_eq_true_eq] using h

theorem row_take {c : Array Value} {ci : List Value} {o k : Nat} (h1 : ci.length = k) (h2 : ∀ j, j < k → c[o + j]? = ci[j]?) : (c.toList.drop o).take k = ci := by
  apply List.ext_getElem?
  intro j
  by_cases hj : j < k
  · rw [List.getElem?_take, if_pos hj, List.getElem?_drop, ← h2 j hj]; simp
  · rw [List.getElem?_take, if_neg hj, List.getElem?_eq_none (by omega)]

theorem rows_take {c : Array Value} {o k : Nat} : ∀ (css : List (List Value)) (i0 : Nat), (∀ i ci, css[i]? = some ci → ci.length = k ∧ ∀ j, j < k → c[o + (i0 + i) * k + j]? = ci[j]?) → (c.toList.drop (o + i0 * k)).take css.flatten.length = css.flatten
  | [], i0, _ => by simp
  | ci :: css, i0, h => by
    obtain ⟨h1, h2⟩ := h 0 ci (by simp)
    have ih := rows_take (c := c) (o := o) (k := k) css (i0 + 1) fun i cj hi => by
      have := h (i + 1) cj (by simpa using hi)
      rw [show i0 + (i + 1) = i0 + 1 + i by omega] at this
      exact this
    simp only [List.flatten_cons, List.length_append]
    rw [List.take_add, List.drop_drop, h1]
    congr 1
    · exact row_take h1 fun j hj => by simpa using h2 j hj
    · rw [show o + i0 * k + k = o + (i0 + 1) * k by rw [Nat.add_mul]; omega]
      exact ih

theorem weightsAll_mem {e : TypeId} : ∀ {ds : List (DataW H)} {d : DataW H}, d ∈ ds → ∀ y ∈ d.weights P e, y ∈ DataW.weightsAll P e ds
  | x :: ds, d, hd, y, hy => by
    simp only [DataW.weightsAll, List.mem_append]
    rcases List.mem_cons.1 hd with rfl | hd
    · exact .inl hy
    · exact .inr (weightsAll_mem hd y hy)

theorem dats_lv {n : Nat} {cs : List Value} (ih : ∀ t g l cs x, Dat P t g l → DataW.trod enc P w base spare true n t cs = some x → (∀ y ∈ x.1.weights P t, y ≤ reachBytes) → ∃ qs f, Lv w l qs cs f) : ∀ (fs : List Field) (l : List PTy) (xs : List (DataW H × List MemPlace)) (o : Nat), Dats P (fs.map Field.type) l →
  (∀ (j : Nat) (f : Field), fs[j]? = some f → f.offset = o + ((fs.take j).map fun (f : Field) => P.cellsOf f.type).sum) → (∀ (j : Nat) (f : Field), fs[j]? = some f → DataW.trod enc P w base spare true n f.type ((cs.drop f.offset).take (P.cellsOf f.type)) = xs[j]?) → xs.length = fs.length →
    (∀ y ∈ DataW.weightsEach P (fs.map Field.type) (xs.map (·.1)), y ≤ reachBytes) → ∃ qs f, Lv w l qs ((cs.drop o).take l.length) f
  | [], l, xs, o, hd, hof, hx, hlen, hw => by cases hd; exact ⟨[], [], by simpa using Lv.nil⟩
  | f :: fs, l, xs, o, hd, hof, hx, hlen, hw => by
    cases xs with
    | nil => simp at hlen
    | cons x xs =>
      simp only [List.map_cons] at hd hw
      cases hd with
      | @cons t ts g l1 m h1 h2 h3 =>
        have e0 := hof 0 f (by simp)
        simp only [List.take_zero, List.map_nil, List.sum_nil, Nat.add_zero] at e0
        have x0 := hx 0 f (by simp)
        simp only [List.getElem?_cons_zero, e0, h2] at x0
        simp only [DataW.weightsEach, List.mem_append] at hw
        obtain ⟨q1, f1, hq1⟩ := ih _ _ _ _ _ h1 x0 (fun y hy => hw y (.inl hy))
        obtain ⟨q2, f2, hq2⟩ := dats_lv ih fs m xs (o + l1.length) h3 (fun j f' hj => by
          have := hof (j + 1) f' (by simpa using hj)
          simp only [List.take_succ_cons, List.map_cons, List.sum_cons, h2] at this
          omega) (fun j f' hj => by simpa using hx (j + 1) f' (by simpa using hj)) (by simpa using hlen) (fun y hy => hw y (.inr hy))
        refine ⟨q1 ++ q2, f1 ++ f2, ?_⟩
        rw [List.length_append, List.take_add, List.drop_drop]
        exact hq1.append hq2

/-- What is read as data lies in memory as such. -/
theorem trod_lv (K : Kids P (· < P.types.size)) (hdt : ∀ t g l, Dat P t g l → t < P.types.size) : ∀ (n : Nat) (t : Nat) (g : Bool) (l : List PTy) (cs : List Value) (x : DataW H × List MemPlace), Dat P t g l → DataW.trod enc P w base spare true n t cs = some x → (∀ y ∈ x.1.weights P t, y ≤ reachBytes) → ∃ qs f, Lv w l qs cs f := by
  intro n
  induction n with
  | zero => intro t g l cs x _ h; simp [DataW.trod] at h
  | succ n ih =>
    intro t g l cs x hd h hw
    have hd0 := hd
    cases hd with
    | int ht _ =>
      obtain ⟨m, rfl, rfl, hwf⟩ := DataW.trod_int ht h
      exact ⟨[.int _ m], [], .int (wf_inR hwf) .nil⟩
    | bool ht _ =>
      obtain ⟨b, rfl, rfl⟩ := DataW.trod_bool ht h
      exact ⟨[.bool b], [], .bool .nil⟩
    | str ht _ =>
      obtain ⟨b, rfl, rfl, hl⟩ := DataW.trod_string ht h
      have := hw b.data.toList.length (by simp [DataW.weights])
      refine ⟨[.str b.data.toList], [], ?_⟩
      have hL := Lv.str (w := w) (lim_reach this) (Lv.nil (w := w))
      simpa using hL
    | @slice _ e g' l' ht he hc hpos hby _ =>
      rcases DataW.trod_slice ht h with ⟨rfl, rfl⟩ | ⟨a, len, cap, elems, rest, m, hm, rfl, rfl, hb, hle, hcap, hel, hget, _⟩
      · exact ⟨[.list []], [], .empty .nil⟩
      · have hmn : m = n := by omega
        subst hmn
        simp only [DataW.weights, ht, List.length_map, List.mem_cons, List.mem_append] at hw
        have hlim : len ≤ LIM := by
          have h1 := lim_reach (hw _ (.inl rfl))
          have h2 : elems.length * 1 ≤ (elems.length + rest.length) * P.bytesOf e := Nat.mul_le_mul (by omega) hby
          omega
        cases len with
        | zero => exact ⟨[.list []], [], .empty .nil⟩
        | succ len =>
          have hcell : ∀ i, i < len + 1 → ∃ ci y, w.cells? base (a.add (i * l'.length)) l'.length = some ci ∧ elems[i]? = some y ∧ ∃ qs f, Lv w l' qs ci f := by
            intro i hi
            have h1 := hget i hi
            have hy : elems[i]? = some elems[i] := by simp [hel, hi]
            rw [hy, hc] at h1
            cases hci : w.cells? base (a.add (i * l'.length)) l'.length with
            | none => rw [hci] at h1; cases h1
            | some ci =>
              rw [hci] at h1
              exact ⟨ci, _, rfl, hy, ih e g' l' ci _ he h1 fun y hy => hw y (.inr (.inl (weightsAll_mem (List.mem_map.2 ⟨_, List.getElem_mem (by omega), rfl⟩) y hy)))⟩
          let ci : Nat → List Value := fun i => (w.cells? base (a.add (i * l'.length)) l'.length).getD []
          have hci : ∀ i, i < len + 1 → w.cells? base (a.add (i * l'.length)) l'.length = some (ci i) ∧ ∃ qs f, Lv w l' qs (ci i) f := by
            intro i hi
            obtain ⟨c, y, h1, _, h2⟩ := hcell i hi
            have : ci i = c := by simp [ci, h1]
            rw [this]; exact ⟨h1, h2⟩
          have hT : ∃ T, T = ptyOf g' l' := ⟨_, rfl⟩
          obtain ⟨T, hT⟩ := hT
          obtain ⟨es, f, e1, e2, e3, e4⟩ := elems_lv (w := w) hT (fun hg => by subst hg; exact dat_leaf he) ((List.range (len + 1)).map ci) fun cs hcs => by
            obtain ⟨i, hi, rfl⟩ := List.mem_map.1 hcs
            exact (hci i (by simpa using hi)).2
          simp only [List.length_map, List.length_range] at e1
          obtain ⟨b, o, sp⟩ := a
          have h00 := (cells_get (hci 0 (by omega)).1)
          have h01 := h00.2 0 hpos
          have hne : ∃ u, (ci 0)[0]? = some u := ⟨(ci 0)[0]'(by omega), by simp [h00.1, hpos]⟩
          obtain ⟨u, hu⟩ := hne
          rw [hu] at h01
          have ha0 : (Addr.add ⟨b, o, sp⟩ (0 * l'.length)).add 0 = ⟨b, o, sp⟩ := by simp [Addr.add]
          rw [ha0] at h01
          simp only [World.cell?] at h01
          have hblk : ∃ c t' fr, w.heap[b]? = some (.cells c t' fr) ∧ sp = none := by
            split at h01
            · rename_i c t' fr hc'
              refine ⟨c, t', fr, hc', ?_⟩
              cases sp with
              | none => rfl
              | some _ => simp at h01
            · cases h01
          obtain ⟨c, t', fr, hblk, rfl⟩ := hblk
          refine ⟨[.list es], b :: f ++ [], ?_⟩
          subst hT
          have := Lv.list (cap := cap) (o := o) hblk e2 ⟨by omega, by omega⟩ e3 ?_ Lv.nil
          · rw [e1] at this
            exact this
          · have := rows_take (c := c) (o := o) (k := l'.length) ((List.range (len + 1)).map ci) 0 fun i cj hi => by
              simp only [List.getElem?_map, List.getElem?_range, Option.map_eq_some_iff] at hi
              obtain ⟨j, hj, rfl⟩ := hi
              have hij : i < len + 1 ∧ i = j := by
                by_cases hlt : i < len + 1
                · rw [List.getElem?_range hlt] at hj; cases hj; exact ⟨hlt, rfl⟩
                · rw [List.getElem?_eq_none (by simp; omega)] at hj; cases hj
              obtain ⟨hlt, rfl⟩ := hij
              obtain ⟨k1, k2⟩ := cells_get (hci i hlt).1
              refine ⟨k1, fun j hj => ?_⟩
              have := k2 j hj
              rw [addr_add, addr_add] at this
              simp only [World.cell?, hblk] at this
              rw [← this]
              simp [Nat.add_assoc]
            simpa using this
    | @struct _ fs l ht hds hc _ =>
      obtain ⟨xs, m, hm, rfl, hlen, hxl, hget⟩ := DataW.trod_struct ht h
      have hmn : m = n := by omega
      subst hmn
      obtain ⟨_, _, hoff⟩ := K.struct (hdt _ _ _ hd0) ht
      simp only [DataW.weights, ht] at hw
      obtain ⟨qs, f, hq⟩ := dats_lv (cs := cs) ih fs.toList l xs 0 hds (fun j f hj => by simpa using hoff j f hj) (fun j f hj => hget j f (by simpa using hj)) (by simpa using hxl) hw
      refine ⟨qs, f, ?_⟩
      rw [List.drop_zero, List.take_of_length_le (by omega)] at hq
      exact hq

end
end Go.Proofs.YtolgjekokdimoaaDoor
end

