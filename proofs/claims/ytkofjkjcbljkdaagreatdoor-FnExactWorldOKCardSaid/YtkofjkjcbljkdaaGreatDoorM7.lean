/-
  Part 7 of the proof of FnExactWorldOK: a verification-condition generator over the program and the contracts of its functions, in the order of their use.
  Conditions: none.
-/
import Derived.Test.YtkofjkjcbljkdaaGreatDoorM6
import Derived.Lib.Builder
import Derived.Lib.AppendStr
import Derived.Lib.UnsafeStr
import Derived.WalkKit
import Derived.OwnWalk
import Derived.Laws.Externs
import Derived.Lib.RuneBytes
import Derived.Shelf.Spec.SlicesInsertGrow
set_option linter.unusedVariables false
set_option linter.unusedSimpArgs false
set_option linter.unusedSectionVars false

section
namespace Go.Proofs.YtkofjkjcbljkdaaGreatDoor
variable [LaidG]
set_option maxRecDepth 100000
set_option linter.unusedSimpArgs false
theorem szGo_le : ∀ {es : List PV} {l : Int}, 0 ≤ l → szGo l es ≤ l ∧ (-1 ≤ szGo l es)
  | [], l, h => ⟨Int.le_refl _, by simp [szGo]; omega⟩
  | e :: es, l, h => by
    simp only [szGo]
    split
    · exact ⟨by omega, by omega⟩
    · have := szGo_le (es := es) (l := l - e.S.length) (by omega)
      omega
theorem szStr_le {es : List PV} {l : Int} (h : 0 ≤ l) : szStr es l ≤ l ∧ -1 ≤ szStr es l ∧ (0 ≤ szStr es l → (es.length : Int) ≤ l) := by
  unfold szStr
  split
  · omega
  · have := szGo_le (es := es) (l := l - es.length) (by omega)
    omega
theorem eqL_refl {f : PV → PV → Bool} (hf : ∀ x, f x x = true) : ∀ {es : List PV}, eqL f es es = true
  | [] => rfl
  | e :: es => by simp [eqL, hf, eqL_refl hf (es := es)]
def c_szMirror : FSpec := ⟨[(.rd, .agg [.int .i64, .int .i64, .int .i64, .list .str]), (.rd, .int .i64)], [.int .i64], true, fun ps => 0 ≤ (nth ps 1).I, fun ps => [.int .i64 (szStr (nth (nth ps 0).A 3).L (nth ps 1).I)], fun _ => []⟩
theorem k_szMirror : FnOk Tryz.prog 144 c_szMirror := by
  refine fn_mk [0, 1, 2, 4] [.tmp 4] (env_cons (cs := []) k_szStringS (env_nil (tyTab_ok []))) mixed Tryz.func144 rfl (by decide) rfl (by decide) rfl ?_
  intro ps hT hpre W hW
  simp only [c_szMirror, TyA, Ty, Tys] at hT hpre
  obtain ⟨_, _, rfl, ⟨_, rfl, _, _, rfl, ⟨n, rfl, hn⟩, _, _, rfl, ⟨w, rfl, hw⟩, _, _, rfl, ⟨h, rfl, hh⟩, _, _, rfl, ⟨es, rfl, he, hes⟩, rfl⟩, _, _, rfl, ⟨l, rfl, hl⟩, rfl⟩ := hT
  simp only [nth_zero, nth_succ, pv_I] at hpre
  have h1 := szStr_le (es := es) hpre
  refine hW.vc [] _ _ ?_
  simp [-List.getD_eq_getElem?_getD, c_szMirror, c_szStringS]
  refine ⟨hpre, fun h2 => by omega⟩
def c_toMirror : FSpec := ⟨[(.rd, .agg [.int .i64, .int .i64, .int .i64, .list .str])], [.agg [.int .i64, .int .i64, .int .i64, .list .str]], true, fun ps => (nth (nth ps 0).A 3).L.length ≤ 1048576, fun ps => [nth ps 0], fun _ => []⟩
theorem k_toMirror : FnOk Tryz.prog 155 c_toMirror := by
  refine fn_mk [0, 1, 2, 3] [.cell 2 35] (env_cons (cs := []) k_toStringS (env_nil (tyTab_ok []))) mixed Tryz.func155 rfl (by decide) rfl (by decide) rfl ?_
  intro ps hT hpre W hW
  simp only [c_toMirror, TyA, Ty, Tys] at hT hpre
  obtain ⟨_, _, rfl, ⟨_, rfl, _, _, rfl, ⟨n, rfl, hn⟩, _, _, rfl, ⟨w, rfl, hw⟩, _, _, rfl, ⟨h, rfl, hh⟩, _, _, rfl, ⟨es, rfl, he, hes⟩, rfl⟩, rfl⟩ := hT
  simp only [nth_zero, nth_succ, pv_A, pv_L] at hpre
  refine hW.vc [] _ _ ?_
  simp [-List.getD_eq_getElem?_getD, c_toMirror, c_toStringS]
  exact hpre
def eqMir (a b : List PV) : Bool := (nth a 0).I == (nth b 0).I && (nth a 1).I == (nth b 1).I && (nth a 2).I == (nth b 2).I && eqL (fun x y => x.S == y.S) (nth a 3).L (nth b 3).L
def c_eqMirror : FSpec := ⟨[(.rd, .agg [.int .i64, .int .i64, .int .i64, .list .str]), (.rd, .agg [.int .i64, .int .i64, .int .i64, .list .str])], [.bool], true, fun _ => True, fun ps => [.bool (eqMir (nth ps 0).A (nth ps 1).A)], fun _ => []⟩
theorem k_eqMirror : FnOk Tryz.prog 136 c_eqMirror := by
  refine fn_mk [0, 1, 2, 3, 4] [.tmp 4] (env_cons (cs := []) k_eqStringS (env_nil (tyTab_ok []))) mixed Tryz.func136 rfl (by decide) rfl (by decide) rfl ?_
  intro ps hT hpre W hW
  simp only [c_eqMirror, TyA, Ty, Tys] at hT hpre
  obtain ⟨_, _, rfl, ⟨_, rfl, _, _, rfl, ⟨n, rfl, hn⟩, _, _, rfl, ⟨w, rfl, hw⟩, _, _, rfl, ⟨h, rfl, hh⟩, _, _, rfl, ⟨es, rfl, he, hes⟩, rfl⟩, _, _, rfl, ⟨_, rfl, _, _, rfl, ⟨n', rfl, hn'⟩, _, _, rfl, ⟨w', rfl, hw'⟩, _, _, rfl, ⟨h', rfl, hh'⟩, _, _, rfl, ⟨es', rfl, he', hes'⟩, rfl⟩, rfl⟩ := hT
  refine hW.vc [] _ _ ?_
  simp [-List.getD_eq_getElem?_getD, c_eqMirror, c_eqStringS]
  simp only [eqMir, nth_zero, nth_succ, pv_I, pv_L]
  refine ⟨fun h1 => by simp [h1], fun h1 => ⟨fun h2 => by simp [h2], fun h2 => ⟨fun h3 => by simp [h3], fun h3 => ⟨fun h4 => by simp [h4], fun h4 => by simp [h1, h2, h3, h4]⟩⟩⟩⟩
end Go.Proofs.YtkofjkjcbljkdaaGreatDoor
end

section
namespace Go.Proofs.YtkofjkjcbljkdaaGreatDoor
variable [LaidG]
set_option maxRecDepth 100000
set_option linter.unusedSimpArgs false
def szG (f : PV → Int) (l : Int) : List PV → Int
  | [] => l
  | e :: es => if l - f e < 0 then -1 else szG f (l - f e) es
theorem szG_le {f : PV → Int} (hf : ∀ e, 0 ≤ f e) : ∀ {es : List PV} {l : Int}, 0 ≤ l → szG f l es ≤ l ∧ -1 ≤ szG f l es
  | [], l, h => ⟨Int.le_refl _, by simp [szG]; omega⟩
  | e :: es, l, h => by
    have := hf e
    simp only [szG]
    split
    · exact ⟨by omega, by omega⟩
    · have := szG_le hf (es := es) (l := l - f e) (by omega)
      omega
def szGs (f : PV → Int) (es : List PV) (l : Int) : Int := if l - es.length < 0 then -1 else szG f (l - es.length) es
theorem szGs_le {f : PV → Int} (hf : ∀ e, 0 ≤ f e) {es : List PV} {l : Int} (h : 0 ≤ l) : szGs f es l ≤ l ∧ -1 ≤ szGs f es l ∧ (0 ≤ szGs f es l → (es.length : Int) ≤ l) := by
  unfold szGs
  split
  · omega
  · have := szG_le hf (es := es) (l := l - es.length) (by omega)
    omega
def szR1 (l n : Int) : Int := if l - n < 0 then -1 else l - n
def rowLen (e : PV) : Int := (nth e.A 1).S.length
theorem rowLen_nn (e : PV) : 0 ≤ rowLen e := by unfold rowLen; omega
theorem row_eta {e : PV} (h : ∃ qs, e = .agg qs ∧ ∃ p r, qs = p :: r ∧ (∃ n, p = .int .i64 n ∧ inR .i64 n) ∧ ∃ p r', r = p :: r' ∧ (∃ l, p = .str l ∧ l.length ≤ LIM) ∧ r' = []) : PV.agg [.int .i64 (nth e.A 0).I, .str (nth e.A 1).S] = e := by
  obtain ⟨_, rfl, _, _, rfl, ⟨n, rfl, _⟩, _, _, rfl, ⟨l, rfl, _⟩, rfl⟩ := h
  rfl
def eqRow1 (a b : List PV) : Bool := (nth a 0).I == (nth b 0).I && (nth a 1).S == (nth b 1).S
def eqRow2 (a b : PV) : Bool := eqRow1 a.A b.A
theorem eqRow2_refl (a : PV) : eqRow2 a a = true := by simp [eqRow2, eqRow1]
def leB (a b : Int) : Bool := decide (a ≤ b)
end Go.Proofs.YtkofjkjcbljkdaaGreatDoor
end

section
namespace Go.Proofs.YtkofjkjcbljkdaaGreatDoor
variable [LaidG]
set_option maxRecDepth 100000
set_option linter.unusedSimpArgs false
structure VW where
  n : Int
  f : Int
  u : Bool
  w : Int
  h : Int
  r : List PV
def VW.pv (v : VW) : PV := .agg [.int .i64 v.n, .int .i64 v.f, .bool v.u, .int .i64 v.w, .int .i64 v.h, .list v.r]
def VW.no : VW := ⟨0, 0, false, 0, 0, []⟩
end Go.Proofs.YtkofjkjcbljkdaaGreatDoor
end

section
namespace Go.Proofs.YtkofjkjcbljkdaaGreatDoor
variable [LaidG]
set_option maxRecDepth 100000
set_option linter.unusedSimpArgs false
def byteOf (x : Int) : UInt8 := UInt8.ofNat (x % 256).toNat
theorem byteOf_nat (x : Int) : ((byteOf x).toNat : Int) = x % 256 := by
  have h1 := Int.emod_nonneg x (show (256 : Int) ≠ 0 by omega)
  have h2 := Int.emod_lt_of_pos x (show (0 : Int) < 256 by omega)
  unfold byteOf
  rw [UInt8.toNat_ofNat', Nat.mod_eq_of_lt (by omega)]
  omega
theorem wrap8_byte (x : Int) : IntKind.u8.wrap x = (byteOf x).toNat := by
  rw [byteOf_nat]; simp [IntKind.wrap, IntKind.signed, IntKind.bits]
def nB (n : Int) (k : Nat) : List UInt8 := (List.range k).map fun i => byteOf (n / 256 ^ (k - 1 - i))
theorem nB_len (n : Int) (k : Nat) : (nB n k).length = k := by simp [nB]
theorem nB_take {n : Int} {k i : Nat} (h : i < k) : (nB n k).take (i + 1) = (nB n k).take i ++ [byteOf (n / 256 ^ (k - 1 - i))] := by
  rw [List.take_succ_eq_append_getElem (by rw [nB_len]; exact h)]; simp [nB]
theorem nB_drop {n : Int} {k i : Nat} (h : i < k) : (nB n k).drop i = byteOf (n / 256 ^ (k - 1 - i)) :: (nB n k).drop (i + 1) := by
  rw [List.drop_eq_getElem_cons (by rw [nB_len]; exact h)]; simp [nB]
theorem bytesPV_len (l : List UInt8) : (bytesPV l).length = l.length := by simp [bytesPV]
theorem bytesPV_app (l m : List UInt8) : bytesPV (l ++ m) = bytesPV l ++ bytesPV m := by simp [bytesPV]
theorem bytesPV_one (b : UInt8) : bytesPV [b] = [.int .u8 b.toNat] := rfl
theorem pvBytes_bytes (l : List UInt8) : pvBytes (bytesPV l) = l := by
  simp only [pvBytes, bytesPV, List.map_map]
  conv => rhs; rw [← List.map_id l]
  exact List.map_congr_left fun b _ => by simp [pv_I]
theorem shr8 {n : Int} {i : Nat} (h : 0 ≤ n) (hi : i ≤ 7) : shrI .i64 n (8 * i : Nat) = n / 256 ^ i := by
  unfold shrI
  have e : min (((8 * i : Nat) : Int).toNat) IntKind.i64.bits = 8 * i := by
    have : IntKind.i64.bits = 64 := rfl
    rw [this, Int.toNat_natCast]; omega
  rw [e, Int.fdiv_eq_ediv_of_nonneg _ (Int.pow_nonneg (by omega)), Int.pow_mul]
  rfl
def c_bigBytes : FSpec := ⟨[(.rd, .int .i64), (.rd, .int .i64)], [.str], true, fun ps => 0 ≤ (nth ps 0).I ∧ 0 ≤ (nth ps 1).I ∧ (nth ps 1).I ≤ 8, fun ps => [.str (nB (nth ps 0).I (nth ps 1).I.toNat)], fun _ => []⟩
theorem k_bigBytes : FnOk Tryz.prog 258 c_bigBytes := by
  refine fn_mk [0, 1, 4, 5, 6] [.tmp 4] (env_nil (tyTab_ok [])) mixed Tryz.func258 rfl (by decide) rfl (by decide) rfl ?_
  intro ps hT hpre W hW
  simp only [c_bigBytes, TyA, Ty, Tys] at hT hpre
  obtain ⟨_, _, rfl, ⟨n, rfl, hn⟩, _, _, rfl, ⟨k, rfl, hk⟩, rfl⟩ := hT
  simp only [nth_zero, nth_succ, pv_I] at hpre
  obtain ⟨hp1, hp2, hp3⟩ := hpre
  obtain ⟨m, rfl⟩ := Int.eq_ofNat_of_zero_le hp2
  rw [inR64] at hn
  refine hW.vc [] _ _ ?_
  simp [-List.getD_eq_getElem?_getD, c_bigBytes]
  refine ⟨by omega, hW.loopS _ _ _ [.sl 0 .dp (.int .i64), .sl 5 .dp (.list (.int .u8)), .sl 6 .dp (.int .i64)] (fun ys => ∃ j : Nat, ys = [.int .i64 (n / 256 ^ (m - j)), .list (List.replicate j (.int .u8 0) ++ (bytesPV (nB n m)).drop j), .int .i64 (j - 1)] ∧ j ≤ m) (fun ys => ((nth ys 2).I + 1).toNat) ?_ ?_⟩
  · simp [-List.getD_eq_getElem?_getD, c_bigBytes]
    refine ⟨m, ⟨by simp, by rw [List.drop_eq_nil_of_le (by rw [bytesPV_len, nB_len]; omega), List.append_nil], by rw [wrap64 (by omega)]⟩, by omega⟩
  · rintro ys ⟨j, rfl, h1⟩
    refine hW.vc [] _ _ ?_
    simp [-List.getD_eq_getElem?_getD, c_bigBytes]
    rw [bytesPV_len, nB_len]
    refine ⟨fun h2 => ⟨⟨h2, by omega⟩, by omega, ⟨j - 1, ⟨?_, ?_, by rw [wrap64 (by omega)]; omega⟩, by omega⟩, by rw [wrap64 (by omega)]; omega⟩, fun h2 => ?_⟩
    · have e : m - (j - 1) = (m - j) + 1 := by omega
      have := shr8 (n := n / 256 ^ (m - j)) (i := 1) (Int.ediv_nonneg hp1 (Int.pow_nonneg (by omega))) (by omega)
      rw [e, Int.pow_succ, ← Int.ediv_ediv_of_nonneg (Int.pow_nonneg (by omega))]
      simpa using this
    · have h3 : (bytesPV (nB n m)).drop (j - 1) = .int .u8 (byteOf (n / 256 ^ (m - j))).toNat :: (bytesPV (nB n m)).drop j := by
        have h4 := nB_drop (n := n) (show j - 1 < m by omega)
        have e1 : m - 1 - (j - 1) = m - j := by omega
        have e2 : j - 1 + 1 = j := by omega
        rw [e1, e2] at h4
        simp only [bytesPV, ← List.map_drop, h4, List.map_cons]
      have h5 : List.replicate j (PV.int IntKind.u8 0) = List.replicate (j - 1) (PV.int IntKind.u8 0) ++ [PV.int IntKind.u8 0] := by
        have : j = (j - 1) + 1 := by omega
        rw [this, List.replicate_succ']; simp
      rw [h3, wrap8_byte, h5, List.append_assoc, List.set_append_right _ _ (by simp), List.length_replicate, Nat.sub_self]
      rfl
    · have : j = 0 := by omega
      subst this
      simp [pvBytes_bytes]
def fieldsB (es : List PV) : List UInt8 := byteOf es.length :: es.flatMap fun e => nB e.S.length 2 ++ e.S
def eqB (x y : PV) : Bool := x.I == y.I
theorem eqB_refl (es : List PV) : eqL eqB es es = true := eqL_refl fun _ => by simp [eqB]
end Go.Proofs.YtkofjkjcbljkdaaGreatDoor
end

section
namespace Go.Proofs.YtkofjkjcbljkdaaGreatDoor
variable [LaidG]
open Go.Lib Go.RowKit
set_option linter.unusedVariables false
section
variable {P : Program} {w : World}
end
end Go.Proofs.YtkofjkjcbljkdaaGreatDoor
end

section
namespace Go.Proofs.YtkofjkjcbljkdaaGreatDoor
variable [LaidG]
open Go.Lib Go.RowKit
set_option linter.unusedVariables false
def BldU (T e b : Nat) (l : List UInt8) (w : World) (f : List Nat) : Prop :=
  ∃ v, w.heap[b]? = some (.cells #[.pointer (some ⟨b, 0, none⟩), v] T (0, 0)) ∧ w.ownsRow 0 e 1 v l.length (l.map fun x => Value.int .u8 x.toNat) ∧ v.ownBlock ≠ some b ∧ f = b :: v.ownBlock.toList
theorem BldU.at {T e b : Nat} {l : List UInt8} {w : World} {f : List Nat} (h : BldU T e b l w f) : BldAt T e b l w f := by
  obtain ⟨v, h1, h2, h3, h4⟩ := h
  exact ⟨_, v, .inr rfl, h1, h2, h3, h4⟩
end Go.Proofs.YtkofjkjcbljkdaaGreatDoor
end

section
namespace Go.Proofs.YtkofjkjcbljkdaaGreatDoor
variable [LaidG]
open Go.Lib Go.RowKit
set_option linter.unusedVariables false
end Go.Proofs.YtkofjkjcbljkdaaGreatDoor
end

section
namespace Go.Proofs.YtkofjkjcbljkdaaGreatDoor
variable [LaidG]
open Go.Lib Go.RowKit
set_option linter.unusedVariables false
section
variable {P : Program} {w : World}
end
def runeL (r : Int) : List Int :=
  if r < 128 then [r] else if r < 2048 then [192 + r / 64, 128 + r % 64] else if r < 65536 then [224 + r / 4096, 128 + r / 64 % 64, 128 + r % 64]
  else [240 + r / 262144, 128 + r / 4096 % 64, 128 + r / 64 % 64, 128 + r % 64]
end Go.Proofs.YtkofjkjcbljkdaaGreatDoor
end

section
namespace Go.Proofs.YtkofjkjcbljkdaaGreatDoor
variable [LaidG]
set_option linter.unusedVariables false
set_option maxRecDepth 100000
def freeD (N : Nat) (S : St) : Option Nat → Prop
  | none => True
  | some t => t < N ∧ (lk S.Lp t).isNone = true ∧ (lk S.Lt t).isNone = true
def bfWS : Option Nat := some 270
def bfWB : Option Nat := none
def bfWR : Option Nat := some 70
def bfLen : Option Nat := some 271
def runeB (n : Int) : List UInt8 := (runeL n).map fun z => UInt8.ofNat z.toNat
def bRes (N : Nat) (keep : List Nat) (S : St) (o : Oper) (K : St → Prop) : Prop :=
  match o.op with
  | .alloc t => t = 113 ∧ o.guard = none ∧ dstOk N keep true o.dst ∧ K (putS keep S true o.dst ⟨True, True, .ptr S.n 0, (S.n, .bld 113 5 []) :: S.A, S.n + 1⟩)
  | .call c => (match c.callee, c.args.toList with
    | .value f, [x, y] => (match S.ev f, S.ev x, S.ev y with
      | some (true, .fn g []), some (true, .ptr h 0), some (true, .str s) => (match lk S.A h with
        | some (.bld T 5 l) => bfWS = some g ∧ T = 113 ∧ l.length + s.length ≤ LIM ∧ o.guard = none ∧ freeD N S o.dst ∧ K { S with A := set1 (strike [h] S.A) h (.bld T 5 (l ++ s)) }
        | _ => False)
      | some (true, .fn g []), some (true, .ptr h 0), some (true, .int .u8 n) => (match lk S.A h with
        | some (.bld T 5 l) => bfWB = some g ∧ T = 113 ∧ l.length + 1 ≤ LIM ∧ o.guard = none ∧ freeD N S o.dst ∧ K { S with A := set1 (strike [h] S.A) h (.bld T 5 (l ++ [UInt8.ofNat n.toNat])) }
        | _ => False)
      | some (true, .fn g []), some (true, .ptr h 0), some (true, .int .i32 n) => (match lk S.A h with
        | some (.bld T 5 l) => bfWR = some g ∧ T = 113 ∧ (0 ≤ n ∧ n ≤ 1114111 ∧ (n < 55296 ∨ 57343 < n)) ∧ l.length + 4 ≤ LIM ∧ o.guard = none ∧ freeD N S o.dst ∧ K { S with A := set1 (strike [h] S.A) h (.bld T 5 (l ++ runeB n)) }
        | _ => False)
      | _, _, _ => False)
    | .value f, [x] => (match S.ev f, S.ev x with
      | some (true, .fn g []), some (true, .ptr h 0) => (match lk S.A h with
        | some (.bld T 5 l) => T = 113 ∧ o.guard = none ∧ dstOk N keep true o.dst ∧
          ((bfLen = some g ∧ K (putS keep S true o.dst ⟨True, True, .int .i64 l.length, S.A, S.n⟩)) ∨
           (g = 73 ∧ l.length ≤ LIM ∧ K (putS keep S true o.dst ⟨True, True, .str l, strike [h] S.A, S.n⟩)))
        | _ => False)
      | _, _ => False)
    | _, _ => False)
  | _ => False
structure BRules (N : Nat) (keep : List Nat) (W : List KI → St → Prop) : Prop where
  bld : ∀ (all l : List Oper) (o : Oper) (k : List KI) (S : St), bRes N keep S o (fun S' => W (.run all l :: k) S') → W (.run all (o :: l) :: k) S
section
variable {C : Cx} {S : St} {a : Act} {w w' : World} {o : Oper} {all l : List Oper} {k : List KI}
end
end Go.Proofs.YtkofjkjcbljkdaaGreatDoor
end

section
namespace Go.Proofs.YtkofjkjcbljkdaaGreatDoor
variable [LaidG]
set_option maxRecDepth 100000
set_option linter.unusedSimpArgs false
end Go.Proofs.YtkofjkjcbljkdaaGreatDoor
end

section
namespace Go.Proofs.YtkofjkjcbljkdaaGreatDoor
variable [LaidG]
set_option maxRecDepth 100000
set_option linter.unusedSimpArgs false
theorem byteOf_of (x : UInt8) (n : Int) : byteOf (n * 256 + x.toNat) = x := by
  have h := x.toNat_lt
  have e : (n * 256 + (x.toNat : Int)) % 256 = x.toNat := by omega
  simp [byteOf, e]
theorem nB_snoc (n : Int) (k : Nat) : nB n (k + 1) = nB (n / 256) k ++ [byteOf n] := by
  simp only [nB, List.range_succ, List.map_append, List.map_cons, List.map_nil]
  congr 1
  · refine List.map_congr_left fun i hi => ?_
    have h : i < k := List.mem_range.1 hi
    have e : k + 1 - 1 - i = (k - 1 - i) + 1 := by omega
    rw [e, Int.pow_succ, Int.mul_comm, ← Int.ediv_ediv_of_nonneg (by omega)]
  · simp
theorem nB_numB : ∀ {k : Nat} {l : List UInt8}, l.length = k → nB (numB l) k = l
  | 0, l, h => by have := List.eq_nil_of_length_eq_zero h; subst this; rfl
  | k + 1, l, h => by
    have h0 : l ≠ [] := by intro e; subst e; simp at h
    have h1 := List.dropLast_concat_getLast h0
    rw [← h1, numB_snoc, nB_snoc, byteOf_of]
    have h2 := (l.getLast h0).toNat_lt
    have e : (numB l.dropLast * 256 + ((l.getLast h0).toNat : Int)) / 256 = numB l.dropLast := by omega
    rw [e, nB_numB (by simp [h])]
def rdGo : Nat → List UInt8 → Option (List PV × List UInt8)
  | 0, t => some ([], t)
  | n + 1, t => if t.length < 2 ∨ 20000 < numB (t.take 2) ∨ (t.length : Int) < 2 + numB (t.take 2) then none
    else (rdGo n (t.drop (2 + (numB (t.take 2)).toNat))).map fun x => (.str ((t.drop 2).take (numB (t.take 2)).toNat) :: x.1, x.2)
def rdF (b : List UInt8) : Option (List PV × List UInt8) := if b = [] ∨ 60 < (b.getD 0 0).toNat then none else rdGo (b.getD 0 0).toNat (b.drop 1)
def rdI (b : List UInt8) : List PV × Bool := if 65536 < b.length then ([], false) else match rdF b with | none => ([], false) | some (es, r) => (es, r.isEmpty)
def rdS (b : List UInt8) : List PV × Bool := match rdF b with | none => ([], false) | some (es, r) => if r = [] then (es, true) else ([], false)
theorem rdGo_enc : ∀ (n : Nat) (t : List UInt8) (es : List PV) (r : List UInt8), rdGo n t = some (es, r) → es.length = n ∧ t = (es.flatMap fun e => nB e.S.length 2 ++ e.S) ++ r
  | 0, t, es, r, h => by
    simp only [rdGo, Option.some.injEq, Prod.mk.injEq] at h
    obtain ⟨rfl, rfl⟩ := h
    simp
  | n + 1, t, es, r, h => by
    rw [rdGo] at h
    split at h
    · cases h
    · rename_i h1
      simp only [Option.map_eq_some_iff, Prod.mk.injEq] at h
      obtain ⟨⟨es', r'⟩, h2, rfl, rfl⟩ := h
      obtain ⟨h3, h4⟩ := rdGo_enc n _ _ _ h2
      refine ⟨by simp [h3], ?_⟩
      have hn : 0 ≤ numB (t.take 2) := (numB_bound _ _ rfl).1
      obtain ⟨m, hm⟩ := Int.eq_ofNat_of_zero_le hn
      rw [hm] at h1 h4 ⊢
      rw [Int.toNat_natCast] at h4 ⊢
      have e0 : ((t.drop 2).take m).length = m := by rw [List.length_take, List.length_drop]; omega
      simp only [List.flatMap_cons, pv_S, e0]
      have e1 : nB m 2 = t.take 2 := by
        rw [← hm]; exact nB_numB (by rw [List.length_take]; omega)
      rw [e1, List.append_assoc, List.append_assoc, ← h4, ← List.drop_drop]
      rw [List.take_append_drop, List.take_append_drop]
theorem rdF_enc {b : List UInt8} {es : List PV} {r : List UInt8} (h : rdF b = some (es, r)) : es.length ≤ 60 ∧ b = fieldsB es ++ r := by
  unfold rdF at h
  split at h
  · cases h
  · rename_i h1
    obtain ⟨h2, h3⟩ := rdGo_enc _ _ _ _ h
    have h0 : b ≠ [] := fun e => h1 (.inl e)
    refine ⟨by rw [h2]; have := fun e => h1 (.inr e); omega, ?_⟩
    unfold fieldsB
    rw [List.cons_append, ← h3, h2]
    cases b with
    | nil => exact absurd rfl h0
    | cons x b =>
      have := byteOf_of x 0
      rw [Int.zero_mul, Int.zero_add] at this
      simp [this]
def c_readFields : FSpec := ⟨[(.rd, .str)], [.list .str, .bool], true, fun _ => True, fun ps => [.list (rdI (nth ps 0).S).1, .bool (rdI (nth ps 0).S).2], fun _ => []⟩
theorem k_readFields : FnOk Tryz.prog 231 c_readFields := by
  refine fn_mk [0, 2, 3, 4, 5, 6, 22, 23] [.tmp 2, .tmp 3] (env_cons (cs := []) k_bigNumber (env_nil (tyTab_ok []))) mixed Tryz.func231 rfl (by decide) rfl (by decide) rfl ?_
  intro ps hT hpre W hW
  simp only [c_readFields, TyA, Ty, Tys] at hT hpre
  obtain ⟨_, _, rfl, ⟨b, rfl, hb⟩, rfl⟩ := hT
  refine hW.vc [] _ _ ?_
  simp [-List.getD_eq_getElem?_getD, c_readFields, c_bigNumber, c_l02Of, c_l02Of]
  have hb8 := (b.getD 0 0).toNat_lt
  refine ⟨fun h => ⟨h, List.length_pos_iff.2 h⟩, fun _ => ⟨fun h => ?_, fun h1 h2 h3 => ⟨by have := List.length_pos_iff.2 h1; omega, List.length_pos_iff.2 h1, ?_⟩⟩⟩
  · by_cases h65 : 65536 < b.length
    · simp [rdI, h65]
    · have hF : rdF b = none := if_pos (by rcases h with (h | h) | h <;> first | exact .inl h | (right; omega))
      simp [rdI, hF]
  have hF : rdF b = rdGo (b.getD 0 0).toNat (b.drop 1) := if_neg (by rintro (h | h); exact h1 h; omega)
  have hI : rdI b = match rdGo (b.getD 0 0).toNat (b.drop 1) with | none => ([], false) | some (es, r) => (es, r.isEmpty) := by
    rw [rdI, if_neg (by omega), hF]
  refine hW.loopS _ _ _ [.sl 4 .dp (.list .str), .sl 5 .dp .str, .sl 23 .dp (.int .u8)] (fun ys => ∃ (acc : List PV) (rest : List UInt8) (i : Nat), ys = [.list acc, .str rest, .int .u8 i] ∧ i ≤ (b.getD 0 0).toNat ∧ acc.length = i ∧ rest.length ≤ 65536 ∧ rdGo (b.getD 0 0).toNat (b.drop 1) = (rdGo ((b.getD 0 0).toNat - i) rest).map fun x => (acc ++ x.1, x.2)) (fun ys => (b.getD 0 0).toNat - (nth ys 2).I.toNat) ?_ ?_
  · simp [-List.getD_eq_getElem?_getD, c_readFields, c_bigNumber, c_l02Of, c_l02Of]
    refine ⟨[], _, 0, ⟨rfl, rfl, rfl⟩, by omega, rfl, by simp; omega, ?_⟩
    rw [List.take_of_length_le (by simp)]
    simp
  · rintro ys ⟨acc, rest, i, rfl, g1, g2, g3, g4⟩
    refine hW.vc [] _ _ ?_
    simp [-List.getD_eq_getElem?_getD, c_readFields, c_bigNumber, c_l02Of, c_l02Of]
    have hn : 0 ≤ numB (rest.take 2) ∧ numB (rest.take 2) < 72057594037927936 := by
      have := numB_le (l := rest.take 2) (by rw [List.length_take]; omega) 2
      rwa [List.take_take, Nat.min_self] at this
    rw [wrap64 (n := 2 + numB (List.take 2 rest)) (by omega)]
    have hw8 : i < (b.getD 0 0).toNat → IntKind.u8.wrap ((i : Int) + 1) = ((i + 1 : Nat) : Int) := fun h => by rw [wrapU8 (by omega)]; omega
    refine ⟨fun g5 g6 => ?_, fun g5 => ?_⟩
    · have hstep : (b.getD 0 0).toNat - i = ((b.getD 0 0).toNat - (i + 1)) + 1 := by omega
      rw [hstep, rdGo] at g4
      rw [hw8 g5]
      have bad : (rest.length < 2 ∨ 20000 < numB (rest.take 2) ∨ (rest.length : Int) < 2 + numB (rest.take 2)) → (rdI b).1 = [] ∧ (rdI b).2 = false := fun h => by
        rw [if_pos h] at g4; rw [hI, g4]; simp
      refine ⟨fun g7 => bad (.inl (by omega)), fun g7 => ⟨by omega, by omega, fun _ => ⟨fun g8 => bad (.inr g8), fun g8 g9 => ⟨by omega, by omega, fun _ => ⟨by omega, ?_, by omega⟩⟩⟩⟩⟩
      have e1 : (2 + numB (rest.take 2)).toNat = 2 + (numB (rest.take 2)).toNat := by omega
      rw [if_neg (by omega)] at g4
      refine ⟨_, _, i + 1, ⟨rfl, rfl, rfl⟩, by omega, by simp [g2], by simp; omega, ?_⟩
      have e2 : List.take (rest.length - (2 + (numB (rest.take 2)).toNat)) (List.drop (2 + (numB (rest.take 2)).toNat) rest) = List.drop (2 + (numB (rest.take 2)).toNat) rest := List.take_of_length_le (by simp)
      rw [e1, Nat.add_sub_cancel_left, e2]
      simpa [Option.map_map, Function.comp_def] using g4
    · have : i = (b.getD 0 0).toNat := by omega
      rw [this, Nat.sub_self, rdGo] at g4
      rw [hI, g4]; simp
def c_l02Read : FSpec := ⟨[(.rd, .str)], [.list .str, .bool], true, fun ps => (nth ps 0).S.length ≤ 65536, fun ps => [.list (rdS (nth ps 0).S).1, .bool (rdS (nth ps 0).S).2], fun _ => []⟩
theorem k_l02Read : FnOk Tryz.prog 187 c_l02Read := by
  refine fn_mk [0, 2, 3, 4, 5, 6, 7] [.tmp 2, .tmp 3] (env_cons (cs := []) k_l02Of (env_nil (tyTab_ok []))) mixed Tryz.func187 rfl (by decide) rfl (by decide) rfl ?_
  intro ps hT hpre W hW
  simp only [c_l02Read, TyA, Ty, Tys] at hT hpre
  obtain ⟨_, _, rfl, ⟨b, rfl, hb⟩, rfl⟩ := hT
  simp only [nth_zero, pv_S] at hpre
  refine hW.vc [] _ _ ?_
  simp [-List.getD_eq_getElem?_getD, c_l02Read, c_l02Of]
  have hb8 := (b.getD 0 0).toNat_lt
  refine ⟨fun h => ⟨h, List.length_pos_iff.2 h⟩, fun h => ?_, fun h1 h2 => ⟨List.length_pos_iff.2 h1, ?_⟩⟩
  · have hF : rdF b = none := if_pos (by rcases h with h | h <;> first | exact .inl h | (right; omega))
    simp [rdS, hF]
  have hF : rdF b = rdGo (b.getD 0 0).toNat (b.drop 1) := if_neg (by rintro (h | h); exact h1 h; omega)
  have hI : rdS b = match rdGo (b.getD 0 0).toNat (b.drop 1) with | none => ([], false) | some (es, r) => if r = [] then (es, true) else ([], false) := by
    rw [rdS, hF]
  refine hW.loopS _ _ _ [.sl 4 .dp (.list .str), .sl 5 .dp (.int .i64), .sl 6 .dp (.int .i64)] (fun ys => ∃ (acc : List PV) (at' i : Nat), ys = [.list acc, .int .i64 at', .int .i64 ((b.getD 0 0).toNat - i : Nat)] ∧ i ≤ (b.getD 0 0).toNat ∧ acc.length = i ∧ at' ≤ b.length ∧ rdGo (b.getD 0 0).toNat (b.drop 1) = (rdGo ((b.getD 0 0).toNat - i) (b.drop at')).map fun x => (acc ++ x.1, x.2)) (fun ys => (nth ys 2).I.toNat) ?_ ?_
  · simp [-List.getD_eq_getElem?_getD, c_l02Read, c_l02Of]
    refine ⟨[], 1, 0, ⟨rfl, rfl, by rw [wrap64 (by omega), Nat.sub_zero]⟩, by omega, rfl, by have := List.length_pos_iff.2 h1; omega, by simp⟩
  · rintro ys ⟨acc, at', i, rfl, g1, g2, g3, g4⟩
    refine hW.vc [] _ _ ?_
    simp [-List.getD_eq_getElem?_getD, c_l02Read, c_l02Of]
    have a1 : IntKind.i64.wrap ((at' : Int) + 2) = (at' + 2 : Nat) := by rw [wrap64 (by omega)]; omega
    have a2 : (((at' + 2 : Nat) : Int)).toNat - at' = 2 := by omega
    have hn : 0 ≤ numB ((b.drop at').take 2) ∧ numB ((b.drop at').take 2) < 72057594037927936 := by
      have := numB_le (l := (b.drop at').take 2) (by rw [List.length_take]; omega) 2
      rwa [List.take_take, Nat.min_self] at this
    have hd : (b.drop at').length = b.length - at' := List.length_drop
    have hd2 : (b.drop at').drop 2 = b.drop (at' + 2) := by rw [List.drop_drop]
    rw [a1, a2]
    generalize hL : numB ((b.drop at').take 2) = L at *
    obtain ⟨m, rfl⟩ := Int.eq_ofNat_of_zero_le hn.1
    have a3 : IntKind.i64.wrap (((at' + 2 : Nat) : Int) + (m : Int)) = (at' + 2 + m : Nat) := by rw [wrap64 (by omega)]; omega
    have a5 : (((at' + 2 + m : Nat) : Int)).toNat - (((at' + 2 : Nat) : Int)).toNat = m := by omega
    have a4 : IntKind.i64.wrap ((at' : Int) + IntKind.i64.wrap (2 + (m : Int))) = (at' + (2 + m) : Nat) := by rw [wrap64 (n := 2 + (m : Int)) (by omega), wrap64 (by omega)]; omega
    rw [a3, a4, a5]
    refine ⟨fun g5 _ => ?_, fun g5 _ => ?_⟩
    · have hstep : (b.getD 0 0).toNat - i = ((b.getD 0 0).toNat - (i + 1)) + 1 := by omega
      rw [hstep, rdGo, hL, hd, Int.toNat_natCast] at g4
      have bad : (b.length - at' < 2 ∨ 20000 < (m : Int) ∨ ((b.length - at' : Nat) : Int) < 2 + (m : Int)) → (rdS b).1 = [] ∧ (rdS b).2 = false := fun h => by
        rw [if_pos h] at g4; rw [hI, g4]; simp
      refine ⟨fun g7 => bad (.inl (by omega)), fun g7 => ⟨by omega, by omega, fun _ => ⟨fun g8 => bad (.inr (by omega)), fun g8 g9 => ⟨by omega, by omega, fun _ => ⟨⟨_, _, i + 1, ⟨rfl, rfl, ?_⟩, by omega, by simp [g2], by omega, ?_⟩, ?_⟩⟩⟩⟩⟩
      · rw [wrap64 (by omega)]; omega
      · rw [if_neg (by omega), List.drop_drop, List.drop_drop] at g4
        rw [Int.toNat_natCast]
        simpa [Option.map_map, Function.comp_def] using g4
      · rw [wrap64 (by omega)]; omega
    · have : i = (b.getD 0 0).toNat := by omega
      rw [this, Nat.sub_self, rdGo] at g4
      have hl : b.drop at' = [] ↔ b.length = at' := by rw [List.drop_eq_nil_iff]; omega
      refine ⟨fun g6 => ?_, fun g6 => ?_⟩
      · have : ¬ b.drop at' = [] := by rw [hl]; omega
        rw [hI, g4]; simp only [Option.map_some, this, if_false]; simp
      · have : b.drop at' = [] := by rw [hl]; omega
        rw [hI, g4]; simp only [Option.map_some, this, if_true]; simp
def numsR : Nat → List UInt8 → List PV
  | 0, _ => []
  | n + 1, t => .int .i64 (numB (t.take 3) - 1) :: numsR n (t.drop 3)
theorem numsR_len : ∀ (n : Nat) (t : List UInt8), (numsR n t).length = n
  | 0, _ => rfl
  | n + 1, t => by simp [numsR, numsR_len n]
def c_readNumbers : FSpec := ⟨[(.rd, .str)], [.list (.int .i64)], true, fun ps => (nth ps 0).S.length ≤ 1048576, fun ps => [.list (numsR ((nth ps 0).S.length / 3) (nth ps 0).S)], fun _ => []⟩
theorem k_readNumbers : FnOk Tryz.prog 253 c_readNumbers := by
  refine fn_mk [0, 2, 3] [.tmp 2] (env_cons (cs := []) k_bigNumber (env_nil (tyTab_ok []))) mixed Tryz.func253 rfl (by decide) rfl (by decide) rfl ?_
  intro ps hT hpre W hW
  simp only [c_readNumbers, TyA, Ty, Tys] at hT hpre
  obtain ⟨_, _, rfl, ⟨b, rfl, hb⟩, rfl⟩ := hT
  simp only [nth_zero, pv_S] at hpre
  refine hW.vc [] _ _ ?_
  simp [-List.getD_eq_getElem?_getD, c_readNumbers, c_bigNumber, c_l02Of, c_l02Of]
  refine hW.loopS _ _ _ [.sl 3 .dp (.list (.int .i64)), .sl 0 .dp .str] (fun ys => ∃ (acc : List PV) (rest : List UInt8), ys = [.list acc, .str rest] ∧ acc.length + rest.length ≤ b.length ∧ numsR (b.length / 3) b = acc ++ numsR (rest.length / 3) rest) (fun ys => (nth ys 1).S.length) ?_ ?_
  · simp [-List.getD_eq_getElem?_getD, c_readNumbers, c_bigNumber, c_l02Of, c_l02Of]
    exact ⟨[], b, ⟨rfl, rfl⟩, by simp, rfl⟩
  · rintro ys ⟨acc, rest, rfl, g1, g2⟩
    refine hW.vc [] _ _ ?_
    simp [-List.getD_eq_getElem?_getD, c_readNumbers, c_bigNumber, c_l02Of, c_l02Of]
    have hn : 0 ≤ numB (rest.take 3) ∧ numB (rest.take 3) < 72057594037927936 := by
      have := numB_le (l := rest.take 3) (by rw [List.length_take]; omega) 3
      rwa [List.take_take, Nat.min_self] at this
    refine fun _ => ⟨fun g3 => ⟨by omega, by omega, by omega, fun _ => ⟨by omega, ⟨_, _, ⟨rfl, rfl⟩, by simp; omega, ?_⟩, by omega⟩⟩, fun g3 => ?_⟩
    · have e2 : List.take (rest.length - 3) (List.drop 3 rest) = List.drop 3 rest := List.take_of_length_le (by simp)
      have e3 : rest.length / 3 = (rest.drop 3).length / 3 + 1 := by rw [List.length_drop]; omega
      rw [e2, g2, e3, numsR, wrap64 (by omega)]
      simp
    · have e3 : rest.length / 3 = 0 := by omega
      rw [g2, e3, numsR, List.append_nil]
def somN (b : List UInt8) (n : Nat) : List PV × Bool := if b.length = 3 * n then (numsR n b, true) else ([], false)
def c_someNumbers : FSpec := ⟨[(.rd, .str), (.rd, .int .i64)], [.list (.int .i64), .bool], true, fun ps => 0 ≤ (nth ps 1).I ∧ (nth ps 1).I ≤ 1000, fun ps => [.list (somN (nth ps 0).S (nth ps 1).I.toNat).1, .bool (somN (nth ps 0).S (nth ps 1).I.toNat).2], fun _ => []⟩
theorem k_someNumbers : FnOk Tryz.prog 233 c_someNumbers := by
  refine fn_mk [0, 1, 4, 5] [.tmp 4, .tmp 5] (env_cons (cs := []) k_readNumbers (env_nil (tyTab_ok []))) mixed Tryz.func233 rfl (by decide) rfl (by decide) rfl ?_
  intro ps hT hpre W hW
  simp only [c_someNumbers, TyA, Ty, Tys] at hT hpre
  obtain ⟨_, _, rfl, ⟨b, rfl, hb⟩, _, _, rfl, ⟨k, rfl, hk⟩, rfl⟩ := hT
  simp only [nth_zero, nth_succ, pv_I] at hpre
  refine hW.vc [] _ _ ?_
  simp [-List.getD_eq_getElem?_getD, c_someNumbers, c_readNumbers]
  rw [wrap64 (by omega)]
  refine fun _ => ⟨fun h => ?_, fun h => ?_⟩
  · rw [somN, if_neg (by omega)]; simp
  · have e : b.length / 3 = k.toNat := by omega
    rw [somN, if_pos (by omega), e]
    exact ⟨by omega, rfl, rfl⟩
def numS (b : List UInt8) : List PV × Bool := if b.length % 3 = 0 then (numsR (b.length / 3) b, true) else ([], false)
def c_l02ReadNumbers : FSpec := ⟨[(.rd, .str)], [.list (.int .i64), .bool], true, fun ps => (nth ps 0).S.length ≤ 1048576, fun ps => [.list (numS (nth ps 0).S).1, .bool (numS (nth ps 0).S).2], fun _ => []⟩
theorem k_l02ReadNumbers : FnOk Tryz.prog 188 c_l02ReadNumbers := by
  refine fn_mk [0, 2, 3, 4, 5] [.tmp 2, .tmp 3] (env_cons (cs := []) k_l02Of (env_nil (tyTab_ok []))) mixed Tryz.func188 rfl (by decide) rfl (by decide) rfl ?_
  intro ps hT hpre W hW
  simp only [c_l02ReadNumbers, TyA, Ty, Tys] at hT hpre
  obtain ⟨_, _, rfl, ⟨b, rfl, hb⟩, rfl⟩ := hT
  simp only [nth_zero, pv_S] at hpre
  refine hW.vc [] _ _ ?_
  simp [-List.getD_eq_getElem?_getD, c_l02ReadNumbers, c_l02Of]
  have e1 : ((b.length : Int)).tmod 3 = ((b.length % 3 : Nat) : Int) := rfl
  rw [e1]
  refine fun _ => ⟨fun h => by rw [numS, if_neg (by omega)]; simp, fun h => ?_⟩
  refine hW.loopS _ _ _ [.sl 4 .dp (.list (.int .i64)), .sl 5 .dp (.int .i64)] (fun ys => ∃ (acc : List PV) (i : Nat), ys = [.list acc, .int .i64 (3 * i : Nat)] ∧ 3 * i ≤ b.length ∧ acc.length = i ∧ numsR (b.length / 3) b = acc ++ numsR (b.length / 3 - i) (b.drop (3 * i))) (fun ys => b.length - (nth ys 1).I.toNat) ?_ ?_
  · simp [-List.getD_eq_getElem?_getD, c_l02ReadNumbers, c_l02Of]
    exact ⟨[], 0, ⟨rfl, rfl⟩, by simp, rfl, by simp⟩
  · rintro ys ⟨acc, i, rfl, g1, g2, g3⟩
    refine hW.vc [] _ _ ?_
    simp [-List.getD_eq_getElem?_getD, c_l02ReadNumbers, c_l02Of]
    have a1 : IntKind.i64.wrap (3 * (i : Int) + 3) = (3 * i + 3 : Nat) := by rw [wrap64 (by omega)]; omega
    have a2 : (((3 * i + 3 : Nat) : Int)).toNat - (3 * (i : Int)).toNat = 3 := by omega
    have a3 : (3 * (i : Int)).toNat = 3 * i := by omega
    rw [a1, a2, a3]
    have hn : 0 ≤ numB ((b.drop (3 * i)).take 3) ∧ numB ((b.drop (3 * i)).take 3) < 72057594037927936 := by
      have := numB_le (l := (b.drop (3 * i)).take 3) (by rw [List.length_take]; omega) 3
      rwa [List.take_take, Nat.min_self] at this
    refine fun _ => ⟨fun g4 => ⟨by omega, by omega, by omega, fun _ => ⟨⟨_, i + 1, ⟨rfl, by omega⟩, by omega, by simp [g2], ?_⟩, by omega⟩⟩, fun g4 => ?_⟩
    · have e3 : b.length / 3 - i = (b.length / 3 - (i + 1)) + 1 := by omega
      rw [g3, e3, numsR, wrap64 (by omega), List.drop_drop]
      simp [Nat.mul_add]
    · have e3 : b.length / 3 - i = 0 := by omega
      rw [e3, numsR, List.append_nil] at g3
      rw [numS, if_pos (by omega), g3]
      exact ⟨rfl, rfl⟩
theorem rdGo_str : ∀ (n : Nat) (t : List UInt8) (es : List PV) (r : List UInt8), rdGo n t = some (es, r) → ∀ e ∈ es, e.S.length ≤ 20000
  | 0, t, es, r, h => by
    simp only [rdGo, Option.some.injEq, Prod.mk.injEq] at h
    obtain ⟨rfl, rfl⟩ := h
    simp
  | n + 1, t, es, r, h => by
    rw [rdGo] at h
    split at h
    · cases h
    · rename_i h1
      simp only [Option.map_eq_some_iff, Prod.mk.injEq] at h
      obtain ⟨⟨es', r'⟩, h2, rfl, rfl⟩ := h
      have h3 := rdGo_str n _ _ _ h2
      intro e he
      rcases List.mem_cons.1 he with rfl | he
      · rw [pv_S, List.length_take]; omega
      · exact h3 e he
theorem rdS_some {b : List UInt8} (h : (rdS b).2 = true) : rdF b = some ((rdS b).1, []) := by
  unfold rdS at h ⊢
  split at h
  · cases h
  · rename_i es r hF
    split at h
    · rename_i hr; subst hr; simp [hF]
    · cases h
theorem rdS_facts {b : List UInt8} (h : (rdS b).2 = true) : (rdS b).1.length ≤ 60 ∧ b = fieldsB (rdS b).1 ∧ ∀ e ∈ (rdS b).1, e.S.length ≤ 20000 := by
  have h1 := rdS_some h
  obtain ⟨h2, h3⟩ := rdF_enc h1
  refine ⟨h2, by simpa using h3, ?_⟩
  unfold rdF at h1
  split at h1
  · cases h1
  · exact rdGo_str _ _ _ _ h1
end Go.Proofs.YtkofjkjcbljkdaaGreatDoor
end

section
namespace Go.Proofs.YtkofjkjcbljkdaaGreatDoor
variable [LaidG]
set_option maxRecDepth 100000
set_option linter.unusedSimpArgs false
def c_szEntry : FSpec := ⟨[(.rd, .agg [.int .i64, .str]), (.rd, .int .i64)], [.int .i64], true, fun ps => 0 ≤ (nth ps 1).I, fun ps => [.int .i64 (szR1 (nth ps 1).I (nth (nth ps 0).A 1).S.length)], fun _ => []⟩
theorem k_szEntry : FnOk Tryz.prog 225 c_szEntry := by
  refine fn_mk [0, 1, 2, 4] [.tmp 4] (env_nil (tyTab_ok [])) mixed Tryz.func225 rfl (by decide) rfl (by decide) rfl ?_
  intro ps hT hpre W hW
  simp only [c_szEntry, TyA, Ty, Tys] at hT hpre
  obtain ⟨_, _, rfl, ⟨_, rfl, _, _, rfl, ⟨y, rfl, hy⟩, _, _, rfl, ⟨c, rfl, hc⟩, rfl⟩, _, _, rfl, ⟨l, rfl, hl⟩, rfl⟩ := hT
  simp only [nth_zero, nth_succ, pv_I] at hpre
  refine hW.vc [] _ _ ?_
  simp [-List.getD_eq_getElem?_getD, c_szEntry]
  intro h1
  rw [inR64] at hl
  rw [wrap64 (by omega)]
  exact ⟨fun h => by rw [szR1, if_pos h], fun h => by rw [szR1, if_neg (Int.not_lt.2 h)]⟩
def c_szEntryS : FSpec := ⟨[(.rd, .list (.agg [.int .i64, .str])), (.rd, .int .i64)], [.int .i64], true, fun ps => 0 ≤ (nth ps 1).I, fun ps => [.int .i64 (szGs rowLen (nth ps 0).L (nth ps 1).I)], fun _ => []⟩
theorem k_szEntryS : FnOk Tryz.prog 183 c_szEntryS := by
  refine fn_mk [0, 1, 4, 5] [.tmp 4] (env_cons (cs := []) k_szEntry (env_nil (tyTab_ok []))) mixed Tryz.func183 rfl (by decide) rfl (by decide) rfl ?_
  intro ps hT hpre W hW
  simp only [c_szEntryS, TyA, Ty, Tys] at hT hpre
  obtain ⟨_, _, rfl, ⟨es, rfl, hes, tes⟩, _, _, rfl, ⟨l, rfl, hl⟩, rfl⟩ := hT
  simp only [nth_zero, nth_succ, pv_I] at hpre
  refine hW.vc [] _ _ ?_
  simp [-List.getD_eq_getElem?_getD, c_szEntryS, c_szEntry]
  intro h1
  rw [inR64] at hl
  rw [wrap64 (by omega)]
  refine ⟨fun h => by simp [szGs, h], fun h => ?_⟩
  refine hW.loopS _ _ _ [.sl 1 .dp (.int .i64), .sl 5 .dp (.int .i64)] (fun ys => ∃ (x : Int) (i : Nat), ys = [.int .i64 x, .int .i64 i] ∧ 0 ≤ x ∧ x ≤ l ∧ i ≤ es.length ∧ szGs rowLen es l = szG rowLen x (es.drop i)) (fun ys => es.length - (nth ys 1).I.toNat) ?_ ?_
  · simp [-List.getD_eq_getElem?_getD, c_szEntryS, c_szEntry]
    exact ⟨_, 0, ⟨rfl, rfl⟩, h, by omega, by simp, by simp [szGs, Int.not_lt.2 h]⟩
  · rintro ys ⟨x, i, rfl, h2, h3, h4, h5⟩
    refine hW.vc [] _ _ ?_
    simp [-List.getD_eq_getElem?_getD, c_szEntryS, c_szEntry]
    refine fun _ => ⟨fun h6 => ⟨h6, fun _ _ _ => ⟨h2, ?_⟩⟩, fun h6 => by rw [h5, List.drop_eq_nil_of_le h6]; rfl⟩
    have h7 : rowLen (nth es i) = (nth (nth es i).A 1).S.length := rfl
    rw [drop_nth h6, szG, h7] at h5
    by_cases h8 : x - ((nth (nth es i).A 1).S.length : Int) < 0
    · rw [if_pos h8] at h5
      rw [szR1, if_pos h8]
      exact ⟨fun _ => h5.symm, fun h => by omega⟩
    · rw [if_neg h8] at h5
      rw [szR1, if_neg h8]
      rw [wrap64 (by omega)]
      exact ⟨fun h => absurd h h8, fun _ => ⟨⟨_, i + 1, ⟨rfl, by omega⟩, by omega, by omega, by omega, h5⟩, by omega⟩⟩
def c_toEntry : FSpec := ⟨[(.rd, .agg [.int .i64, .str])], [.agg [.int .i64, .str]], true, fun _ => True, fun ps => [nth ps 0], fun _ => []⟩
theorem k_toEntry : FnOk Tryz.prog 229 c_toEntry := by
  refine fn_mk [0, 1, 2, 3] [.cell 2 213] (env_nil (tyTab_ok [])) mixed Tryz.func229 rfl (by decide) rfl (by decide) rfl ?_
  intro ps hT hpre W hW
  simp only [c_toEntry, TyA, Ty, Tys] at hT hpre
  obtain ⟨_, _, rfl, ⟨_, rfl, _, _, rfl, ⟨y, rfl, hy⟩, _, _, rfl, ⟨c, rfl, hc⟩, rfl⟩, rfl⟩ := hT
  refine hW.vc [] _ _ ?_
  simp [-List.getD_eq_getElem?_getD, c_toEntry]
def c_toEntryS : FSpec := ⟨[(.rd, .list (.agg [.int .i64, .str]))], [.list (.agg [.int .i64, .str])], true, fun ps => (nth ps 0).L.length ≤ 1048576, fun ps => [.list (nth ps 0).L], fun _ => []⟩
theorem k_toEntryS : FnOk Tryz.prog 194 c_toEntryS := by
  refine fn_mk [0, 2, 3, 4] [.tmp 2] (env_cons (cs := []) k_toEntry (env_nil (tyTab_ok []))) mixed Tryz.func194 rfl (by decide) rfl (by decide) rfl ?_
  intro ps hT hpre W hW
  simp only [c_toEntryS, TyA, Ty, Tys] at hT hpre
  obtain ⟨_, _, rfl, ⟨es, rfl, hes, tes⟩, rfl⟩ := hT
  simp only [nth_zero, pv_L] at hpre
  refine hW.vc [] _ _ ?_
  simp [-List.getD_eq_getElem?_getD, c_toEntryS, c_toEntry]
  refine fun h1 => ⟨by omega, hW.loopS _ _ _ [.sl 3 .dp (.list (.agg [.int .i64, .str])), .sl 4 .dp (.int .i64)] (fun ys => ∃ (out : List PV) (i : Nat), ys = [.list out, .int .i64 i] ∧ i ≤ es.length ∧ out.length = es.length ∧ out.take i = es.take i) (fun ys => es.length - (nth ys 1).I.toNat) ?_ ?_⟩
  · simp [-List.getD_eq_getElem?_getD, c_toEntryS, c_toEntry]
    exact ⟨_, 0, ⟨rfl, rfl⟩, by simp, by simp, by simp⟩
  · rintro ys ⟨out, i, rfl, h2, h3, h4⟩
    refine hW.vc [] _ _ ?_
    simp [-List.getD_eq_getElem?_getD, c_toEntryS, c_toEntry]
    refine fun _ => ⟨fun h5 => ⟨h5, fun _ _ _ => ⟨by omega, ?_⟩⟩, fun h5 => ?_⟩
    · rw [row_eta (tes _ (nth_mem h5)), wrap64 (by omega)]
      refine ⟨⟨_, i + 1, ⟨rfl, by omega⟩, by omega, by simp [h3], set_take h4 h3 h5 rfl⟩, by omega⟩
    · rw [List.take_of_length_le (by omega), List.take_of_length_le (by omega)] at h4
      exact h4
def c_eqEntry : FSpec := ⟨[(.rd, .agg [.int .i64, .str]), (.rd, .agg [.int .i64, .str])], [.bool], true, fun _ => True, fun ps => [.bool (eqRow1 (nth ps 0).A (nth ps 1).A)], fun _ => []⟩
theorem k_eqEntry : FnOk Tryz.prog 224 c_eqEntry := by
  refine fn_mk [0, 1, 2, 3, 4] [.tmp 4] (env_nil (tyTab_ok [])) mixed Tryz.func224 rfl (by decide) rfl (by decide) rfl ?_
  intro ps hT hpre W hW
  simp only [c_eqEntry, TyA, Ty, Tys] at hT hpre
  obtain ⟨_, _, rfl, ⟨_, rfl, _, _, rfl, ⟨y, rfl, hy⟩, _, _, rfl, ⟨c, rfl, hc⟩, rfl⟩, _, _, rfl, ⟨_, rfl, _, _, rfl, ⟨y', rfl, hy'⟩, _, _, rfl, ⟨c', rfl, hc'⟩, rfl⟩, rfl⟩ := hT
  refine hW.vc [] _ _ ?_
  simp [-List.getD_eq_getElem?_getD, c_eqEntry]
  simp only [eqRow1, nth_zero, nth_succ, pv_I, pv_S]
  refine ⟨fun h1 => by simp [h1], fun h1 => ⟨fun h2 => by simp [h2], fun h2 => by simp [h1, h2]⟩⟩
def c_eqEntryS : FSpec := ⟨[(.rd, .list (.agg [.int .i64, .str])), (.rd, .list (.agg [.int .i64, .str]))], [.bool], true, fun _ => True, fun ps => [.bool (eqL eqRow2 (nth ps 0).L (nth ps 1).L)], fun _ => []⟩
theorem k_eqEntryS : FnOk Tryz.prog 181 c_eqEntryS := by
  refine fn_mk [0, 1, 4, 5] [.tmp 4] (env_cons (cs := []) k_eqEntry (env_nil (tyTab_ok []))) mixed Tryz.func181 rfl (by decide) rfl (by decide) rfl ?_
  intro ps hT hpre W hW
  simp only [c_eqEntryS, TyA, Ty, Tys] at hT hpre
  obtain ⟨_, _, rfl, ⟨es, rfl, hes, tes⟩, _, _, rfl, ⟨es2, rfl, hes2, tes2⟩, rfl⟩ := hT
  refine hW.vc [(6, [], .take 0 <| .take 1 <| .take 2 <| .take 3 <| .take 4 <| .take 5 <| .take 6 <| .take 7 <| .alt 8 (.take 9 <| .done) .stop)] _ _ ?_
  simp [-List.getD_eq_getElem?_getD, c_eqEntryS, c_eqEntry]
  refine fun h1 h2 => ⟨fun h3 => eqL_len (by omega), fun h3 => ?_⟩
  refine hW.loopS _ _ _ [.sl 5 .dp (.int .i64)] (fun ys => ∃ i : Nat, ys = [.int .i64 i] ∧ i ≤ es.length ∧ eqL eqRow2 es es2 = eqL eqRow2 (es.drop i) (es2.drop i)) (fun ys => es.length - (nth ys 0).I.toNat) ?_ ?_
  · simp [-List.getD_eq_getElem?_getD, c_eqEntryS, c_eqEntry]
    exact ⟨0, rfl, by simp, by simp⟩
  · rintro ys ⟨i, rfl, h4, h5⟩
    refine hW.vc [(6, [], .take 0 <| .take 1 <| .take 2 <| .take 3 <| .take 4 <| .take 5 <| .take 6 <| .take 7 <| .alt 8 (.take 9 <| .done) .stop)] _ _ ?_
    simp [-List.getD_eq_getElem?_getD, c_eqEntryS, c_eqEntry]
    refine fun _ => ⟨fun h6 => ⟨by decide +kernel, h6, fun _ _ _ => ⟨by omega, fun _ _ _ => ?_⟩⟩, fun h6 => ?_⟩
    · rw [drop_nth h6, drop_nth (by omega : i < es2.length), eqL] at h5
      have h8 : eqRow1 [PV.int IntKind.i64 (nth (nth es i).A 0).I, PV.str (nth (nth es i).A 1).S] [PV.int IntKind.i64 (nth (nth es2 i).A 0).I, PV.str (nth (nth es2 i).A 1).S] = eqRow2 (nth es i) (nth es2 i) := rfl
      rw [wrap64 (by omega), h8]
      refine ⟨fun h7 => by rw [h5]; simp [h7], fun h7 => ⟨⟨i + 1, by omega, by omega, by rw [h5]; simp [h7]⟩, by omega⟩⟩
    · rw [h5, List.drop_eq_nil_of_le h6, List.drop_eq_nil_of_le (by omega)]; rfl
def c_szIntS : FSpec := ⟨[(.rd, .list (.int .i64)), (.rd, .int .i64)], [.int .i64], true, fun ps => 0 ≤ (nth ps 1).I, fun ps => [.int .i64 (szR1 (nth ps 1).I (nth ps 0).L.length)], fun _ => []⟩
theorem k_szIntS : FnOk Tryz.prog 184 c_szIntS := by
  refine fn_mk [0, 1, 4] [.tmp 4] (env_nil (tyTab_ok [])) mixed Tryz.func184 rfl (by decide) rfl (by decide) rfl ?_
  intro ps hT hpre W hW
  simp only [c_szIntS, TyA, Ty, Tys] at hT hpre
  obtain ⟨_, _, rfl, ⟨es, rfl, hes, tes⟩, _, _, rfl, ⟨l, rfl, hl⟩, rfl⟩ := hT
  simp only [nth_zero, nth_succ, pv_I] at hpre
  refine hW.vc [] _ _ ?_
  simp [-List.getD_eq_getElem?_getD, c_szIntS]
  intro h1
  rw [inR64] at hl
  rw [wrap64 (by omega)]
  exact ⟨fun h => by rw [szR1, if_pos h], fun h => by rw [szR1, if_neg (Int.not_lt.2 h)]⟩
def c_toIntS : FSpec := ⟨[(.rd, .list (.int .i64))], [.list (.int .i64)], true, fun ps => (nth ps 0).L.length ≤ 1048576, fun ps => [.list (nth ps 0).L], fun _ => []⟩
theorem k_toIntS : FnOk Tryz.prog 195 c_toIntS := by
  refine fn_mk [0, 2, 3, 4] [.tmp 2] (env_nil (tyTab_ok [])) mixed Tryz.func195 rfl (by decide) rfl (by decide) rfl ?_
  intro ps hT hpre W hW
  simp only [c_toIntS, TyA, Ty, Tys] at hT hpre
  obtain ⟨_, _, rfl, ⟨es, rfl, hes, tes⟩, rfl⟩ := hT
  simp only [nth_zero, pv_L] at hpre
  refine hW.vc [] _ _ ?_
  simp [-List.getD_eq_getElem?_getD, c_toIntS]
  refine fun h1 => ⟨by omega, hW.loopS _ _ _ [.sl 3 .dp (.list (.int .i64)), .sl 4 .dp (.int .i64)] (fun ys => ∃ (out : List PV) (i : Nat), ys = [.list out, .int .i64 i] ∧ i ≤ es.length ∧ out.length = es.length ∧ out.take i = es.take i) (fun ys => es.length - (nth ys 1).I.toNat) ?_ ?_⟩
  · simp [-List.getD_eq_getElem?_getD, c_toIntS]
    exact ⟨_, 0, ⟨rfl, rfl⟩, by simp, by simp, by simp⟩
  · rintro ys ⟨out, i, rfl, h2, h3, h4⟩
    refine hW.vc [] _ _ ?_
    simp [-List.getD_eq_getElem?_getD, c_toIntS]
    refine fun _ => ⟨fun h5 => ⟨h5, fun _ => ⟨by omega, ?_⟩⟩, fun h5 => ?_⟩
    · obtain ⟨x, hx, _⟩ := tes _ (nth_mem h5)
      rw [wrap64 (by omega)]
      refine ⟨⟨_, i + 1, ⟨rfl, by omega⟩, by omega, by simp [h3], set_take h4 h3 h5 (by rw [hx, pv_I])⟩, by omega⟩
    · rw [List.take_of_length_le (by omega), List.take_of_length_le (by omega)] at h4
      exact h4
def c_eqIntS : FSpec := ⟨[(.rd, .list (.int .i64)), (.rd, .list (.int .i64))], [.bool], true, fun _ => True, fun ps => [.bool (eqL eqB (nth ps 0).L (nth ps 1).L)], fun _ => []⟩
theorem k_eqIntS : FnOk Tryz.prog 182 c_eqIntS := by
  refine fn_mk [0, 1, 4, 5] [.tmp 4] (env_nil (tyTab_ok [])) mixed Tryz.func182 rfl (by decide) rfl (by decide) rfl ?_
  intro ps hT hpre W hW
  simp only [c_eqIntS, TyA, Ty, Tys] at hT hpre
  obtain ⟨_, _, rfl, ⟨es, rfl, hes, tes⟩, _, _, rfl, ⟨es2, rfl, hes2, tes2⟩, rfl⟩ := hT
  refine hW.vc [(6, [], .take 0 <| .take 1 <| .take 2 <| .take 3 <| .take 4 <| .take 5 <| .take 6 <| .take 7 <| .take 8 <| .done)] _ _ ?_
  simp [-List.getD_eq_getElem?_getD, c_eqIntS]
  refine fun h1 h2 => ⟨fun h3 => eqL_len (by omega), fun h3 => ?_⟩
  refine hW.loopS _ _ _ [.sl 5 .dp (.int .i64)] (fun ys => ∃ i : Nat, ys = [.int .i64 i] ∧ i ≤ es.length ∧ eqL eqB es es2 = eqL eqB (es.drop i) (es2.drop i)) (fun ys => es.length - (nth ys 0).I.toNat) ?_ ?_
  · simp [-List.getD_eq_getElem?_getD, c_eqIntS]
    exact ⟨0, rfl, by simp, by simp⟩
  · rintro ys ⟨i, rfl, h4, h5⟩
    refine hW.vc [(6, [], .take 0 <| .take 1 <| .take 2 <| .take 3 <| .take 4 <| .take 5 <| .take 6 <| .take 7 <| .take 8 <| .done)] _ _ ?_
    simp [-List.getD_eq_getElem?_getD, c_eqIntS]
    refine fun _ => ⟨fun h6 => ⟨by decide +kernel, h6, fun _ => ⟨by omega, fun _ => ?_⟩⟩, fun h6 => ?_⟩
    · rw [drop_nth h6, drop_nth (by omega : i < es2.length), eqL] at h5
      rw [wrap64 (by omega)]
      refine ⟨fun h7 => by rw [h5]; simp [eqB, h7], fun h7 => ⟨⟨i + 1, by omega, by omega, by rw [h5]; simp [eqB, h7]⟩, by omega⟩⟩
    · rw [h5, List.drop_eq_nil_of_le h6, List.drop_eq_nil_of_le (by omega)]; rfl
end Go.Proofs.YtkofjkjcbljkdaaGreatDoor
end

section
namespace Go.Proofs.YtkofjkjcbljkdaaGreatDoor
variable [LaidG]
set_option maxRecDepth 100000
set_option linter.unusedSimpArgs false
def szQ (a : Int) (v x m : Nat) : Int := if a < 0 then -1 else if szR1 a v < 0 then -1 else if szR1 (szR1 a v) x < 0 then -1 else szR1 (szR1 (szR1 a v) x) m
def szN (v : List PV) (l : Int) : Int := szQ (szGs rowLen (nth v 6).L l) (nth v 10).L.length (nth v 11).L.length (nth v 12).L.length
theorem szR1_le {l : Int} {n : Nat} (h : 0 ≤ l) : szR1 l n ≤ l ∧ -1 ≤ szR1 l n ∧ (0 ≤ szR1 l n → (n : Int) ≤ l) := by
  unfold szR1; split <;> omega
def c_szNode : FSpec := ⟨[(.rd, .agg [.int .i64, .int .i64, .int .i64, .int .i64, .int .i64, .bool, .list (.agg [.int .i64, .str]), .int .i64, .int .i64, .int .i64, .list (.int .i64), .list (.int .i64), .list (.int .i64)]), (.rd, .int .i64)], [.int .i64], true, fun ps => 0 ≤ (nth ps 1).I, fun ps => [.int .i64 (szN (nth ps 0).A (nth ps 1).I)], fun _ => []⟩
theorem k_szNode : FnOk Tryz.prog 141 c_szNode := by
  refine fn_mk [0, 1, 2, 4] [.tmp 4] (env_cons (cs := []) k_szIntS (env_cons (cs := []) k_szEntryS (env_nil (tyTab_ok [])))) mixed Tryz.func141 rfl (by decide) rfl (by decide) rfl ?_
  intro ps hT hpre W hW
  simp only [c_szNode, TyA, Ty, Tys] at hT hpre
  obtain ⟨_, _, rfl, ⟨_, rfl, _, _, rfl, ⟨n0, rfl, hn0⟩, _, _, rfl, ⟨n1, rfl, hn1⟩, _, _, rfl, ⟨n2, rfl, hn2⟩, _, _, rfl, ⟨n3, rfl, hn3⟩, _, _, rfl, ⟨n4, rfl, hn4⟩, _, _, rfl, ⟨u, rfl⟩, _, _, rfl, ⟨es, rfl, hes, tes⟩, _, _, rfl, ⟨n5, rfl, hn5⟩, _, _, rfl, ⟨n6, rfl, hn6⟩, _, _, rfl, ⟨n7, rfl, hn7⟩, _, _, rfl, ⟨vs, rfl, hvs, tvs⟩, _, _, rfl, ⟨xs, rfl, hxs, txs⟩, _, _, rfl, ⟨ms, rfl, hms, tms⟩, rfl⟩, _, _, rfl, ⟨l, rfl, hl⟩, rfl⟩ := hT
  simp only [nth_zero, nth_succ, pv_I] at hpre
  have h1 := szGs_le rowLen_nn (es := es) hpre
  refine hW.vc [] _ _ ?_
  simp [-List.getD_eq_getElem?_getD, c_szNode, c_szEntryS, c_szIntS]
  simp only [szN, nth_zero, nth_succ, pv_L]
  unfold szQ
  refine ⟨hpre, fun q => by rw [if_pos q], fun q => ⟨q, fun q2 => by rw [if_neg (by omega), if_pos q2], fun q2 => ⟨q2, fun q3 => by rw [if_neg (by omega), if_neg (by omega), if_pos q3], fun q3 => ⟨q3, fun q4 => ?_, fun q4 => ?_⟩⟩⟩⟩
  · rw [if_neg (by omega), if_neg (by omega), if_neg (by omega)]
    have := (szR1_le (n := ms.length) q3).2.1
    omega
  · rw [if_neg (by omega), if_neg (by omega), if_neg (by omega)]
def c_toNode : FSpec := ⟨[(.rd, .agg [.int .i64, .int .i64, .int .i64, .int .i64, .int .i64, .bool, .list (.agg [.int .i64, .str]), .int .i64, .int .i64, .int .i64, .list (.int .i64), .list (.int .i64), .list (.int .i64)])], [.agg [.int .i64, .int .i64, .int .i64, .int .i64, .int .i64, .bool, .list (.agg [.int .i64, .str]), .int .i64, .int .i64, .int .i64, .list (.int .i64), .list (.int .i64), .list (.int .i64)]], true, fun ps => (nth (nth ps 0).A 6).L.length ≤ 1048576 ∧ (nth (nth ps 0).A 10).L.length ≤ 1048576 ∧ (nth (nth ps 0).A 11).L.length ≤ 1048576 ∧ (nth (nth ps 0).A 12).L.length ≤ 1048576, fun ps => [nth ps 0], fun _ => []⟩
theorem k_toNode : FnOk Tryz.prog 152 c_toNode := by
  refine fn_mk [0, 1, 2, 3] [.cell 2 140] (env_cons (cs := []) k_toIntS (env_cons (cs := []) k_toEntryS (env_nil (tyTab_ok [])))) mixed Tryz.func152 rfl (by decide) rfl (by decide) rfl ?_
  intro ps hT hpre W hW
  simp only [c_toNode, TyA, Ty, Tys] at hT hpre
  obtain ⟨_, _, rfl, ⟨_, rfl, _, _, rfl, ⟨n0, rfl, hn0⟩, _, _, rfl, ⟨n1, rfl, hn1⟩, _, _, rfl, ⟨n2, rfl, hn2⟩, _, _, rfl, ⟨n3, rfl, hn3⟩, _, _, rfl, ⟨n4, rfl, hn4⟩, _, _, rfl, ⟨u, rfl⟩, _, _, rfl, ⟨es, rfl, hes, tes⟩, _, _, rfl, ⟨n5, rfl, hn5⟩, _, _, rfl, ⟨n6, rfl, hn6⟩, _, _, rfl, ⟨n7, rfl, hn7⟩, _, _, rfl, ⟨vs, rfl, hvs, tvs⟩, _, _, rfl, ⟨xs, rfl, hxs, txs⟩, _, _, rfl, ⟨ms, rfl, hms, tms⟩, rfl⟩, rfl⟩ := hT
  simp only [nth_zero, nth_succ, pv_A, pv_L] at hpre
  refine hW.vc [] _ _ ?_
  simp [-List.getD_eq_getElem?_getD, c_toNode, c_toEntryS, c_toIntS]
  exact hpre
def eqNd (a b : List PV) : Bool := (nth a 0).I == (nth b 0).I && (nth a 1).I == (nth b 1).I && (nth a 2).I == (nth b 2).I && (nth a 3).I == (nth b 3).I && (nth a 4).I == (nth b 4).I && (nth a 5).B == (nth b 5).B && eqL eqRow2 (nth a 6).L (nth b 6).L &&
  (nth a 7).I == (nth b 7).I && (nth a 8).I == (nth b 8).I && (nth a 9).I == (nth b 9).I && eqL eqB (nth a 10).L (nth b 10).L && eqL eqB (nth a 11).L (nth b 11).L && eqL eqB (nth a 12).L (nth b 12).L
def c_eqNode : FSpec := ⟨[(.rd, .agg [.int .i64, .int .i64, .int .i64, .int .i64, .int .i64, .bool, .list (.agg [.int .i64, .str]), .int .i64, .int .i64, .int .i64, .list (.int .i64), .list (.int .i64), .list (.int .i64)]), (.rd, .agg [.int .i64, .int .i64, .int .i64, .int .i64, .int .i64, .bool, .list (.agg [.int .i64, .str]), .int .i64, .int .i64, .int .i64, .list (.int .i64), .list (.int .i64), .list (.int .i64)])], [.bool], true, fun _ => True, fun ps => [.bool (eqNd (nth ps 0).A (nth ps 1).A)], fun _ => []⟩
theorem k_eqNode : FnOk Tryz.prog 133 c_eqNode := by
  refine fn_mk [0, 1, 2, 3, 4] [.tmp 4] (env_cons (cs := []) k_eqIntS (env_cons (cs := []) k_eqEntryS (env_nil (tyTab_ok [])))) mixed Tryz.func133 rfl (by decide) rfl (by decide) rfl ?_
  intro ps hT hpre W hW
  simp only [c_eqNode, TyA, Ty, Tys] at hT hpre
  obtain ⟨_, _, rfl, ⟨_, rfl, _, _, rfl, ⟨n0, rfl, hn0⟩, _, _, rfl, ⟨n1, rfl, hn1⟩, _, _, rfl, ⟨n2, rfl, hn2⟩, _, _, rfl, ⟨n3, rfl, hn3⟩, _, _, rfl, ⟨n4, rfl, hn4⟩, _, _, rfl, ⟨u, rfl⟩, _, _, rfl, ⟨es, rfl, hes, tes⟩, _, _, rfl, ⟨n5, rfl, hn5⟩, _, _, rfl, ⟨n6, rfl, hn6⟩, _, _, rfl, ⟨n7, rfl, hn7⟩, _, _, rfl, ⟨vs, rfl, hvs, tvs⟩, _, _, rfl, ⟨xs, rfl, hxs, txs⟩, _, _, rfl, ⟨ms, rfl, hms, tms⟩, rfl⟩, _, _, rfl, ⟨_, rfl, _, _, rfl, ⟨n0', rfl, hn0'⟩, _, _, rfl, ⟨n1', rfl, hn1'⟩, _, _, rfl, ⟨n2', rfl, hn2'⟩, _, _, rfl, ⟨n3', rfl, hn3'⟩, _, _, rfl, ⟨n4', rfl, hn4'⟩, _, _, rfl, ⟨u', rfl⟩, _, _, rfl, ⟨es', rfl, hes', tes'⟩, _, _, rfl, ⟨n5', rfl, hn5'⟩, _, _, rfl, ⟨n6', rfl, hn6'⟩, _, _, rfl, ⟨n7', rfl, hn7'⟩, _, _, rfl, ⟨vs', rfl, hvs', tvs'⟩, _, _, rfl, ⟨xs', rfl, hxs', txs'⟩, _, _, rfl, ⟨ms', rfl, hms', tms'⟩, rfl⟩, rfl⟩ := hT
  refine hW.vc [] _ _ ?_
  simp [-List.getD_eq_getElem?_getD, c_eqNode, c_eqEntryS, c_eqIntS]
  simp only [eqNd, nth_zero, nth_succ, pv_I, pv_B, pv_L]
  exact ⟨fun q1 => by simp [q1], fun q1 => ⟨fun q2 => by simp [q2], fun q2 => ⟨fun q3 => by simp [q3], fun q3 => ⟨fun q4 => by simp [q4], fun q4 => ⟨fun q5 => by simp [q5], fun q5 => ⟨fun q6 => by simp [q6], fun q6 => ⟨fun q7 => by simp [q7], fun q7 => ⟨fun q8 => by simp [q8], fun q8 => ⟨fun q9 => by simp [q9], fun q9 => ⟨fun q10 => by simp [q10], fun q10 => ⟨fun q11 => by simp [q11], fun q11 => ⟨fun q12 => by simp [q12], fun q12 => ⟨fun q13 => by simp [q13], fun q13 => by simp [q1, q2, q3, q4, q5, q6, q7, q8, q9, q10, q11, q12, q13]⟩⟩⟩⟩⟩⟩⟩⟩⟩⟩⟩⟩⟩
theorem eqNd_refl (v : List PV) : eqNd v v = true := by simp [eqNd, eqL_refl (f := eqRow2) eqRow2_refl, eqB_refl]
def eqMg (a b : List PV) : Bool := (nth a 0).I == (nth b 0).I && (nth a 1).I == (nth b 1).I && (nth a 2).I == (nth b 2).I && (nth a 3).I == (nth b 3).I && (nth a 4).I == (nth b 4).I && (nth a 5).I == (nth b 5).I && (nth a 6).I == (nth b 6).I && (nth a 7).B == (nth b 7).B && eqL eqRow2 (nth a 8).L (nth b 8).L
theorem eqMg_refl (v : List PV) : eqMg v v = true := by simp [eqMg, eqL_refl (f := eqRow2) eqRow2_refl]
def c_eqMessage : FSpec := ⟨[(.rd, .agg [.int .i64, .int .i64, .int .i64, .int .i64, .int .i64, .int .i64, .int .i64, .bool, .list (.agg [.int .i64, .str])]), (.rd, .agg [.int .i64, .int .i64, .int .i64, .int .i64, .int .i64, .int .i64, .int .i64, .bool, .list (.agg [.int .i64, .str])])], [.bool], true, fun _ => True, fun ps => [.bool (eqMg (nth ps 0).A (nth ps 1).A)], fun _ => []⟩
theorem k_eqMessage : FnOk Tryz.prog 135 c_eqMessage := by
  refine fn_mk [0, 1, 2, 3, 4] [.tmp 4] (env_cons (cs := []) k_eqEntryS (env_nil (tyTab_ok []))) mixed Tryz.func135 rfl (by decide) rfl (by decide) rfl ?_
  intro ps hT hpre W hW
  simp only [c_eqMessage, TyA, Ty, Tys] at hT hpre
  obtain ⟨_, _, rfl, ⟨_, rfl, _, _, rfl, ⟨n0, rfl, hn0⟩, _, _, rfl, ⟨n1, rfl, hn1⟩, _, _, rfl, ⟨n2, rfl, hn2⟩, _, _, rfl, ⟨n3, rfl, hn3⟩, _, _, rfl, ⟨n4, rfl, hn4⟩, _, _, rfl, ⟨n5, rfl, hn5⟩, _, _, rfl, ⟨n6, rfl, hn6⟩, _, _, rfl, ⟨u, rfl⟩, _, _, rfl, ⟨es, rfl, hes, tes⟩, rfl⟩, _, _, rfl, ⟨_, rfl, _, _, rfl, ⟨n0', rfl, hn0'⟩, _, _, rfl, ⟨n1', rfl, hn1'⟩, _, _, rfl, ⟨n2', rfl, hn2'⟩, _, _, rfl, ⟨n3', rfl, hn3'⟩, _, _, rfl, ⟨n4', rfl, hn4'⟩, _, _, rfl, ⟨n5', rfl, hn5'⟩, _, _, rfl, ⟨n6', rfl, hn6'⟩, _, _, rfl, ⟨u', rfl⟩, _, _, rfl, ⟨es', rfl, hes', tes'⟩, rfl⟩, rfl⟩ := hT
  refine hW.vc [] _ _ ?_
  simp [-List.getD_eq_getElem?_getD, c_eqMessage, c_eqEntryS]
  simp only [eqMg, nth_zero, nth_succ, pv_I, pv_B, pv_L]
  exact ⟨fun q1 => by simp [q1], fun q1 => ⟨fun q2 => by simp [q2], fun q2 => ⟨fun q3 => by simp [q3], fun q3 => ⟨fun q4 => by simp [q4], fun q4 => ⟨fun q5 => by simp [q5], fun q5 => ⟨fun q6 => by simp [q6], fun q6 => ⟨fun q7 => by simp [q7], fun q7 => ⟨fun q8 => by simp [q8], fun q8 => ⟨fun q9 => by simp [q9], fun q9 => by simp [q1, q2, q3, q4, q5, q6, q7, q8, q9]⟩⟩⟩⟩⟩⟩⟩⟩⟩
def eqMg2 (a b : PV) : Bool := eqMg a.A b.A
theorem eqMs_refl (es : List PV) : eqL eqMg2 es es = true := eqL_refl fun _ => eqMg_refl _
def c_eqMessageS : FSpec := ⟨[(.rd, .list (.agg [.int .i64, .int .i64, .int .i64, .int .i64, .int .i64, .int .i64, .int .i64, .bool, .list (.agg [.int .i64, .str])])), (.rd, .list (.agg [.int .i64, .int .i64, .int .i64, .int .i64, .int .i64, .int .i64, .int .i64, .bool, .list (.agg [.int .i64, .str])]))], [.bool], true, fun _ => True, fun ps => [.bool (eqL eqMg2 (nth ps 0).L (nth ps 1).L)], fun _ => []⟩
theorem k_eqMessageS : FnOk Tryz.prog 82 c_eqMessageS := by
  refine fn_mk [0, 1, 4, 5] [.tmp 4] (env_cons (cs := []) k_eqMessage (env_nil (tyTab_ok []))) mixed Tryz.func82 rfl (by decide) rfl (by decide) rfl ?_
  intro ps hT hpre W hW
  simp only [c_eqMessageS, TyA, Ty, Tys] at hT hpre
  obtain ⟨_, _, rfl, ⟨es, rfl, hes, tes⟩, _, _, rfl, ⟨es2, rfl, hes2, tes2⟩, rfl⟩ := hT
  refine hW.vc [(6, [], .take 0 <| .take 1 <| .take 2 <| .take 3 <| .take 4 <| .take 5 <| .take 6 <| .take 7 <| .alt 8 (.take 9 <| .done) .stop)] _ _ ?_
  simp [-List.getD_eq_getElem?_getD, c_eqMessageS, c_eqMessage]
  refine fun h1 h2 => ⟨fun h3 => eqL_len (by omega), fun h3 => ?_⟩
  refine hW.loopS _ _ _ [.sl 5 .dp (.int .i64)] (fun ys => ∃ i : Nat, ys = [.int .i64 i] ∧ i ≤ es.length ∧ eqL eqMg2 es es2 = eqL eqMg2 (es.drop i) (es2.drop i)) (fun ys => es.length - (nth ys 0).I.toNat) ?_ ?_
  · simp [-List.getD_eq_getElem?_getD, c_eqMessageS, c_eqMessage]
    exact ⟨0, rfl, by simp, by simp⟩
  · rintro ys ⟨i, rfl, h4, h5⟩
    refine hW.vc [(6, [], .take 0 <| .take 1 <| .take 2 <| .take 3 <| .take 4 <| .take 5 <| .take 6 <| .take 7 <| .alt 8 (.take 9 <| .done) .stop)] _ _ ?_
    simp [-List.getD_eq_getElem?_getD, c_eqMessageS, c_eqMessage]
    refine fun _ => ⟨fun h6 => ⟨by decide +kernel, h6, fun _ _ _ _ _ _ _ _ _ _ _ _ _ _ _ => ⟨by omega, fun _ _ _ _ _ _ _ _ _ _ _ _ _ _ _ => ?_⟩⟩, fun h6 => ?_⟩
    · rw [drop_nth h6, drop_nth (by omega : i < es2.length), eqL] at h5
      have h8 : eqMg [PV.int IntKind.i64 (nth (nth es i).A 0).I, PV.int IntKind.i64 (nth (nth es i).A 1).I, PV.int IntKind.i64 (nth (nth es i).A 2).I, PV.int IntKind.i64 (nth (nth es i).A 3).I, PV.int IntKind.i64 (nth (nth es i).A 4).I, PV.int IntKind.i64 (nth (nth es i).A 5).I,
            PV.int IntKind.i64 (nth (nth es i).A 6).I, PV.bool (nth (nth es i).A 7).B, PV.list (nth (nth es i).A 8).L]
          [PV.int IntKind.i64 (nth (nth es2 i).A 0).I, PV.int IntKind.i64 (nth (nth es2 i).A 1).I, PV.int IntKind.i64 (nth (nth es2 i).A 2).I, PV.int IntKind.i64 (nth (nth es2 i).A 3).I, PV.int IntKind.i64 (nth (nth es2 i).A 4).I, PV.int IntKind.i64 (nth (nth es2 i).A 5).I,
            PV.int IntKind.i64 (nth (nth es2 i).A 6).I, PV.bool (nth (nth es2 i).A 7).B, PV.list (nth (nth es2 i).A 8).L] = eqMg2 (nth es i) (nth es2 i) := rfl
      rw [wrap64 (by omega), h8]
      refine ⟨fun h7 => by rw [h5]; simp [h7], fun h7 => ⟨⟨i + 1, by omega, by omega, by rw [h5]; simp [h7]⟩, by omega⟩⟩
    · rw [h5, List.drop_eq_nil_of_le h6, List.drop_eq_nil_of_le (by omega)]; rfl
end Go.Proofs.YtkofjkjcbljkdaaGreatDoor
end

section
namespace Go.Proofs.YtkofjkjcbljkdaaGreatDoor
variable [LaidG]
set_option maxRecDepth 100000
set_option linter.unusedSimpArgs false
end Go.Proofs.YtkofjkjcbljkdaaGreatDoor
end

section
namespace Go.Proofs.YtkofjkjcbljkdaaGreatDoor
variable [LaidG]
set_option maxRecDepth 100000
set_option linter.unusedSimpArgs false
def entB (t : Int) (p : Int) : List PV → Bool
  | [] => true
  | e :: es => leB (nth e.A 1).S.length 400 && inB (nth e.A 0).I 1 t && leB p (nth e.A 0).I && entB t (nth e.A 0).I es
def pvE (es : List PV) (i : Nat) : Int := if i = 0 then 0 else (nth (nth es (i - 1)).A 0).I
theorem pvE_succ (es : List PV) (i : Nat) : pvE es (i + 1) = (nth (nth es i).A 0).I := by simp [pvE]
theorem pvE_pos {es : List PV} {i : Nat} (h : 0 < i) : pvE es i = (nth (nth es (i - 1)).A 0).I := by rw [pvE, if_neg (by omega)]
def entsB (t : Int) (es : List PV) : Bool := entB t 0 es && leB es.length 60
def stB (t v : Int) (es : List PV) : Bool := inB t 0 1000 && inB v (-1) 4 && entsB t es
def voB (n p : Int) : List PV → Bool
  | [] => true
  | e :: es => inB e.I 0 (n - 1) && decide (p < e.I) && voB n e.I es
def pvV (es : List PV) (i : Nat) : Int := if i = 0 then -1 else (nth es (i - 1)).I
theorem pvV_succ (es : List PV) (i : Nat) : pvV es (i + 1) = (nth es i).I := by simp [pvV]
theorem pvV_pos {es : List PV} {i : Nat} (h : 0 < i) : pvV es i = (nth es (i - 1)).I := by rw [pvV, if_neg (by omega)]
def nmB (l : Int) : List PV → List PV → Bool
  | x :: xs, m :: ms => inB x.I 1 (l + 1) && inB m.I 0 (x.I - 1) && nmB l xs ms
  | _, _ => true
structure ND where
  id : Int
  nodes : Int
  term : Int
  vote : Int
  role : Int
  up : Bool
  log : List PV
  com : Int
  ela : Int
  wt : Int
  vs : List PV
  nx : List PV
  ms : List PV
def ND.pv (n : ND) : PV := .agg [.int .i64 n.id, .int .i64 n.nodes, .int .i64 n.term, .int .i64 n.vote, .int .i64 n.role, .bool n.up, .list n.log, .int .i64 n.com, .int .i64 n.ela, .int .i64 n.wt, .list n.vs, .list n.nx, .list n.ms]
def ndOf (v : List PV) : ND := ⟨(nth v 0).I, (nth v 1).I, (nth v 2).I, (nth v 3).I, (nth v 4).I, (nth v 5).B, (nth v 6).L, (nth v 7).I, (nth v 8).I, (nth v 9).I, (nth v 10).L, (nth v 11).L, (nth v 12).L⟩
def ND.no : ND := ⟨0, 0, 0, 0, 0, false, [], 0, 0, 0, [], [], []⟩
def ltB (a b : Int) : Bool := decide (a < b)
def ndB1 (n : ND) : Bool := inB n.nodes 1 5 && inB n.id 0 (n.nodes - 1) && stB n.term n.vote n.log && ltB n.vote n.nodes && inB n.role 0 2 && (n.up || n.role == 0) && inB n.com 0 n.log.length &&
  inB n.ela 0 1000 && inB n.wt 5 100 && (n.nx.length : Int) == n.nodes && (n.ms.length : Int) == n.nodes
def nodeB (n : ND) : Bool := ndB1 n && voB n.nodes (-1) n.vs && nmB n.log.length n.nx n.ms
def c_areEntries : FSpec := ⟨[(.rd, .list (.agg [.int .i64, .str])), (.rd, .int .i64)], [.bool], true, fun _ => True, fun ps => [.bool (entsB (nth ps 1).I (nth ps 0).L)], fun _ => []⟩
theorem k_areEntries : FnOk Tryz.prog 200 c_areEntries := by
  refine fn_mk [0, 1, 4, 5, 6, 7, 8, 9] [.tmp 4] (env_cons (cs := []) k_within (env_nil (tyTab_ok []))) mixed Tryz.func200 rfl (by decide) rfl (by decide) rfl ?_
  intro ps hT hpre W hW
  simp only [c_areEntries, TyA, Ty, Tys] at hT hpre
  obtain ⟨_, _, rfl, ⟨es, rfl, hes, tes⟩, _, _, rfl, ⟨t, rfl, ht⟩, rfl⟩ := hT
  refine hW.vc [(4, [], .take 0 <| .take 1 <| .take 2 <| .take 3 <| .take 4 <| .take 5 <| .take 6 <| .take 7 <| .alt 8 (.take 9 <| .take 10 <| .take 11 <| .take 12 <| .take 13 <| .take 14 <| .take 15 <| .take 16 <| .take 17 <| .take 18 <| .take 19 <| .take 20 <| .take 21 <| .take 22 <| .take 23 <| .take 24 <| .take 25 <| .done) .stop)] _ _ ?_
  simp [-List.getD_eq_getElem?_getD, c_areEntries, c_within]
  refine fun h1 => hW.loopS _ _ _ [.sl 9 .dp (.int .i64)] (fun ys => ∃ i : Nat, ys = [.int .i64 i] ∧ i ≤ es.length ∧ entB t 0 es = entB t (pvE es i) (es.drop i)) (fun ys => es.length - (nth ys 0).I.toNat) ?_ ?_
  · simp [-List.getD_eq_getElem?_getD, c_areEntries, c_within]
    exact ⟨0, rfl, by simp, by simp [pvE]⟩
  · rintro ys ⟨i, rfl, g1, g2⟩
    refine hW.vc [(4, [], .take 0 <| .take 1 <| .take 2 <| .take 3 <| .take 4 <| .take 5 <| .take 6 <| .take 7 <| .alt 8 (.take 9 <| .take 10 <| .take 11 <| .take 12 <| .take 13 <| .take 14 <| .take 15 <| .take 16 <| .take 17 <| .take 18 <| .take 19 <| .take 20 <| .take 21 <| .take 22 <| .take 23 <| .take 24 <| .take 25 <| .done) .stop)] _ _ ?_
    simp [-List.getD_eq_getElem?_getD, c_areEntries, c_within]
    have k2 : 0 < i → (IntKind.i64.wrap ((i : Int) - 1)).toNat = i - 1 := fun h => by rw [wrap64 (by omega)]; omega
    have k3 : 0 < i → IntKind.i64.wrap ((i : Int) - 1) = i - 1 := fun h => wrap64 (by omega)
    refine ⟨fun g3 => ⟨g3, fun _ _ _ => ⟨by decide +kernel, fun _ => ⟨fun g4 g5 g6 => ⟨⟨⟨g4, g5⟩, g6⟩, by rw [k3 g6]; omega⟩, fun g4 g5 g6 => ⟨⟨⟨g4, g5⟩, g6⟩, by rw [k2 g6]; omega⟩, fun _ => ⟨fun g4 g5 => ⟨⟨g4, g5⟩, fun g6 => ⟨⟨g4, g5⟩, g6⟩⟩, ?_⟩⟩⟩⟩, ?_⟩
    · rw [drop_nth g3, entB] at g2
      refine ⟨fun g4 => ?_, fun g4 g6 g5 => ?_⟩
      · rw [entsB, g2]
        rcases g4 with (g4 | g4) | ⟨g4, g5⟩
        · have : ¬ ((nth (nth es i).A 1).S.length : Int) ≤ 400 := by omega
          simp [this, leB]
        · simp [g4]
        · rw [k2 g4] at g5
          have : ¬ pvE es i ≤ (nth (nth es i).A 0).I := by rw [pvE_pos g4]; omega
          simp [this, leB]
      · rw [wrap64 (by omega)]
        have k5 : pvE es i ≤ (nth (nth es i).A 0).I := by
          by_cases h0 : 0 < i
          · have := g5 h0
            rw [k2 h0] at this
            rw [pvE_pos h0]; exact this
          · have : pvE es i = 0 := by rw [pvE, if_pos (by omega)]
            rw [this]
            simp [inB] at g6; omega
        refine ⟨⟨i + 1, by omega, by omega, ?_⟩, by omega⟩
        rw [g2, g6, pvE_succ]
        simp [k5, g4, leB]
    · intro g3 _
      rw [List.drop_eq_nil_of_le g3, entB] at g2
      rw [entsB, g2, Bool.true_and, leB]
def c_isState : FSpec := ⟨[(.rd, .agg [.int .i64, .int .i64, .list (.agg [.int .i64, .str])])], [.bool], true, fun _ => True, fun ps => [.bool (stB (nth (nth ps 0).A 0).I (nth (nth ps 0).A 1).I (nth (nth ps 0).A 2).L)], fun _ => []⟩
theorem k_isState : FnOk Tryz.prog 196 c_isState := by
  refine fn_mk [0, 1, 2] [.tmp 2] (env_cons (cs := []) k_areEntries (env_cons (cs := []) k_within (env_nil (tyTab_ok [])))) mixed Tryz.func196 rfl (by decide) rfl (by decide) rfl ?_
  intro ps hT hpre W hW
  simp only [c_isState, TyA, Ty, Tys] at hT hpre
  obtain ⟨_, _, rfl, ⟨_, rfl, _, _, rfl, ⟨t, rfl, ht⟩, _, _, rfl, ⟨v, rfl, hv⟩, _, _, rfl, ⟨es, rfl, hes, tes⟩, rfl⟩, rfl⟩ := hT
  refine hW.vc [] _ _ ?_
  simp [-List.getD_eq_getElem?_getD, c_isState, c_within, c_areEntries]
  exact ⟨fun h => by rcases h with h | h <;> simp [stB, h], fun h h' => by simp [stB, h, h']⟩
theorem nd_no {n0 n1 n2 n3 n4 n5 n6 n7 : Int} {u : Bool} {es vs xs ms : List PV}
    (h : ((((((((((inB n1 1 5 = false ∨ inB n0 0 (n1 - 1) = false) ∨ stB n2 n3 es = false) ∨ n1 ≤ n3) ∨ inB n4 0 2 = false) ∨ u = false ∧ ¬n4 = 0) ∨ inB n5 0 es.length = false) ∨ inB n6 0 1000 = false) ∨ inB n7 5 100 = false) ∨ ¬(xs.length : Int) = n1) ∨ ¬(ms.length : Int) = n1)) :
    nodeB ⟨n0, n1, n2, n3, n4, u, es, n5, n6, n7, vs, xs, ms⟩ = false := by
  have : ndB1 ⟨n0, n1, n2, n3, n4, u, es, n5, n6, n7, vs, xs, ms⟩ = false := by
    rcases h with (((((((((h | h) | h) | h) | h) | h) | h) | h) | h) | h) | h
    case inl.inl.inl.inl.inl.inl.inl.inr => simp [ndB1, ltB, Int.not_lt.2 h]
    all_goals simp [ndB1, h]
  simp [nodeB, this]
theorem nd_eq {n0 n1 n2 n3 n4 n5 n6 n7 : Int} {u : Bool} {es vs xs ms : List PV}
    (h1 : inB n1 1 5 = true) (h2 : inB n0 0 (n1 - 1) = true) (h3 : stB n2 n3 es = true) (h4 : n3 < n1) (h5 : inB n4 0 2 = true) (h6 : u = false → n4 = 0) (h7 : inB n5 0 es.length = true) (h8 : inB n6 0 1000 = true) (h9 : inB n7 5 100 = true) (h10 : (xs.length : Int) = n1) (h11 : (ms.length : Int) = n1) :
    nodeB ⟨n0, n1, n2, n3, n4, u, es, n5, n6, n7, vs, xs, ms⟩ = (voB n1 (-1) vs && nmB es.length xs ms) := by
  have h12 : (u || n4 == 0) = true := by cases u <;> simp [h6]
  have : ndB1 ⟨n0, n1, n2, n3, n4, u, es, n5, n6, n7, vs, xs, ms⟩ = true := by
    simp only [ndB1, ltB, h1, h2, h3, h5, h7, h8, h9, h10, h11, h12, Bool.true_and, decide_eq_true h4, beq_self_eq_true]
  rw [nodeB, this]
  simp
def c_isNode : FSpec := ⟨[(.rd, .agg [.int .i64, .int .i64, .int .i64, .int .i64, .int .i64, .bool, .list (.agg [.int .i64, .str]), .int .i64, .int .i64, .int .i64, .list (.int .i64), .list (.int .i64), .list (.int .i64)])], [.bool], true, fun _ => True, fun ps => [.bool (nodeB (ndOf (nth ps 0).A))], fun _ => []⟩
theorem k_isNode : FnOk Tryz.prog 156 c_isNode := by
  refine fn_mk [0, 1, 2, 3, 4, 5, 6, 7, 94, 95, 96, 123, 124, 125] [.tmp 2] (env_cons (cs := []) k_isState (env_cons (cs := []) k_within (env_nil (tyTab_ok [])))) mixed Tryz.func156 rfl (by decide) rfl (by decide) rfl ?_
  intro ps hT hpre W hW
  simp only [c_isNode, TyA, Ty, Tys] at hT hpre
  obtain ⟨_, _, rfl, ⟨_, rfl, _, _, rfl, ⟨n0, rfl, hn0⟩, _, _, rfl, ⟨n1, rfl, hn1⟩, _, _, rfl, ⟨n2, rfl, hn2⟩, _, _, rfl, ⟨n3, rfl, hn3⟩, _, _, rfl, ⟨n4, rfl, hn4⟩, _, _, rfl, ⟨u, rfl⟩, _, _, rfl, ⟨es, rfl, hes, tes⟩, _, _, rfl, ⟨n5, rfl, hn5⟩, _, _, rfl, ⟨n6, rfl, hn6⟩, _, _, rfl, ⟨n7, rfl, hn7⟩, _, _, rfl, ⟨vs, rfl, hvs, tvs⟩, _, _, rfl, ⟨xs, rfl, hxs, txs⟩, _, _, rfl, ⟨ms, rfl, hms, tms⟩, rfl⟩, rfl⟩ := hT
  refine hW.vc [] _ _ ?_
  simp [-List.getD_eq_getElem?_getD, c_isNode, c_within, c_isState, ndOf]
  refine fun h0 => ⟨fun a b c d e => ⟨⟨⟨⟨⟨a, b⟩, c⟩, d⟩, e⟩, fun f => ⟨⟨⟨⟨⟨a, b⟩, c⟩, d⟩, e⟩, f⟩⟩, fun _ _ => ⟨fun h => ?_, ?_⟩⟩
  · by_cases hb : inB n1 1 5 = true
    · rw [wrap64 (n := n1 - 1) (by simp [inB] at hb; omega)] at h
      exact nd_no h
    · exact nd_no (by simp [hb])
  intro h1 h2 h3 h4 h5 h6 h7 h8 h9 h10 h11 h12
  have k1 : IntKind.i64.wrap (n1 - 1) = n1 - 1 := wrap64 (by simp [inB] at h1; omega)
  rw [k1] at h2
  have hq := nd_eq (vs := vs) h1 h2 h3 h4 h5 h6 h7 h8 h9 h10 h11
  refine hW.loopS _ _ _ [.sl 96 .dp (.int .i64)] (fun ys => ∃ i : Nat, ys = [.int .i64 i] ∧ i ≤ vs.length ∧ voB n1 (-1) vs = voB n1 (pvV vs i) (vs.drop i)) (fun ys => vs.length - (nth ys 0).I.toNat) ?_ ?_
  · simp [-List.getD_eq_getElem?_getD, c_isNode, c_within, c_isState]
    exact ⟨0, rfl, by simp, by simp [pvV]⟩
  · rintro ys ⟨i, rfl, g1, g2⟩
    refine hW.vc [] _ _ ?_
    simp [-List.getD_eq_getElem?_getD, c_isNode, c_within, c_isState, ndOf]
    rw [k1]
    have k2 : 0 < i → (IntKind.i64.wrap ((i : Int) - 1)).toNat = i - 1 := fun h => by rw [wrap64 (by omega)]; omega
    have k3 : 0 < i → IntKind.i64.wrap ((i : Int) - 1) = i - 1 := fun h => wrap64 (by omega)
    refine ⟨fun g3 => ⟨g3, fun _ => ⟨fun g4 g5 => ⟨⟨g4, g5⟩, by rw [k3 g5]; omega⟩, fun g4 g5 => ⟨⟨g4, g5⟩, by rw [k2 g5]; omega⟩, fun _ => ⟨fun g4 => ⟨g4, fun g5 => ⟨g4, g5⟩⟩, ?_⟩⟩⟩, ?_⟩
    · rw [drop_nth g3, voB] at g2
      refine ⟨fun g4 => ?_, fun g4 g5 => ?_⟩
      · rw [hq, g2]
        rcases g4 with g4 | ⟨g4, g5⟩
        · simp [g4]
        · rw [k2 g4] at g5
          have : ¬ pvV vs i < (nth vs i).I := by rw [pvV_pos g4]; omega
          simp [this]
      · rw [wrap64 (by omega)]
        have k5 : pvV vs i < (nth vs i).I := by
          by_cases h0 : 0 < i
          · have := g5 h0
            rw [k2 h0] at this
            rw [pvV_pos h0]; exact this
          · have : pvV vs i = -1 := by rw [pvV, if_pos (by omega)]
            rw [this]
            simp [inB] at g4; omega
        refine ⟨⟨i + 1, by omega, by omega, ?_⟩, by omega⟩
        rw [g2, g4, pvV_succ]
        simp [k5]
    · intro g3 g4
      rw [List.drop_eq_nil_of_le g3, voB] at g2
      rw [g2, Bool.true_and] at hq
      refine hW.loopS _ _ _ [.sl 125 .dp (.int .i64)] (fun ys => ∃ j : Nat, ys = [.int .i64 j] ∧ j ≤ xs.length ∧ nmB es.length xs ms = nmB es.length (xs.drop j) (ms.drop j)) (fun ys => xs.length - (nth ys 0).I.toNat) ?_ ?_
      · simp [-List.getD_eq_getElem?_getD, c_isNode, c_within, c_isState]
        exact ⟨0, rfl, by simp, by simp⟩
      · rintro ys ⟨j, rfl, q1, q2⟩
        refine hW.vc [] _ _ ?_
        simp [-List.getD_eq_getElem?_getD, c_isNode, c_within, c_isState, ndOf]
        have k6 : IntKind.i64.wrap ((es.length : Int) + 1) = es.length + 1 := wrap64 (by rw [LIM] at hes; omega)
        have k7 : inB (nth xs j).I 1 (es.length + 1) = true → IntKind.i64.wrap ((nth xs j).I - 1) = (nth xs j).I - 1 := fun h => wrap64 (by rw [LIM] at hes; simp [inB] at h; omega)
        rw [k6]
        refine ⟨fun q3 => ⟨q3, fun _ => ⟨fun q4 => ⟨q4, by omega⟩, fun _ => ⟨fun q4 => ?_, fun q4 q5 => ?_⟩⟩⟩, fun q3 => ?_⟩
        · rw [drop_nth q3, drop_nth (by omega : j < ms.length), nmB] at q2
          rw [hq, q2]
          by_cases q5 : inB (nth xs j).I 1 (es.length + 1) = true
          · rw [k7 q5] at q4
            rcases q4 with q4 | q4 <;> simp [q4]
          · simp [q5]
        · rw [drop_nth q3, drop_nth (by omega : j < ms.length), nmB] at q2
          rw [k7 q4] at q5
          rw [wrap64 (by omega)]
          exact ⟨⟨j + 1, by omega, by omega, by rw [q2, q4, q5]; simp⟩, by omega⟩
        · rw [hq, q2, List.drop_eq_nil_of_le q3]; simp [nmB]
def c_CloneE : FSpec := ⟨[(.rd, .list (.agg [.int .i64, .str]))], [.list (.agg [.int .i64, .str])], true, fun ps => (nth ps 0).L.length ≤ 1048576, fun ps => [.list (nth ps 0).L], fun _ => []⟩
theorem k_CloneE : FnOk Tryz.prog 252 c_CloneE := by
  refine fn_mk [0, 2] [.tmp 2] (env_nil (tyTab_ok [])) mixed Tryz.func252 rfl (by decide) rfl (by decide) rfl ?_
  intro ps hT hpre W hW
  simp only [c_CloneE, TyA, Ty, Tys] at hT hpre
  obtain ⟨_, _, rfl, ⟨es, rfl, hes, tes⟩, rfl⟩ := hT
  simp only [nth_zero, pv_L] at hpre
  refine hW.vc [] _ _ ?_
  simp [-List.getD_eq_getElem?_getD, c_CloneE]
  omega
end Go.Proofs.YtkofjkjcbljkdaaGreatDoor
end

section
namespace Go.Proofs.YtkofjkjcbljkdaaGreatDoor
variable [LaidG]
set_option maxRecDepth 100000
set_option linter.unusedSimpArgs false
def crcBit (r : Nat) : Nat := if r % 2 = 1 then (r / 2) ^^^ 3988292384 else r / 2
def crcBits : Nat → Nat → Nat
  | 0, r => r
  | n + 1, r => crcBit (crcBits n r)
def crcF (l : List UInt8) : Nat := l.foldl (fun r b => crcBits 8 (r ^^^ b.toNat)) 4294967295
def crcN (l : List UInt8) : Nat := crcF l ^^^ 4294967295
theorem xor_lt {a b : Nat} (ha : a < 4294967296) (hb : b < 4294967296) : a ^^^ b < 4294967296 := Nat.xor_lt_two_pow (n := 32) ha hb
theorem crcBit_lt {r : Nat} (h : r < 4294967296) : crcBit r < 4294967296 := by
  unfold crcBit
  split
  · exact xor_lt (by omega) (by omega)
  · omega
theorem crcBits_lt {r : Nat} (h : r < 4294967296) : ∀ n, crcBits n r < 4294967296
  | 0 => h
  | n + 1 => crcBit_lt (crcBits_lt h n)
theorem crcG_lt : ∀ (l : List UInt8) (r : Nat), r < 4294967296 → l.foldl (fun r b => crcBits 8 (r ^^^ b.toNat)) r < 4294967296
  | [], r, h => h
  | b :: l, r, h => crcG_lt l _ (crcBits_lt (xor_lt h (by have := b.toNat_lt; omega)) 8)
theorem crcF_lt (l : List UInt8) : crcF l < 4294967296 := crcG_lt l _ (by decide)
theorem crcN_lt (l : List UInt8) : crcN l < 4294967296 := xor_lt (crcF_lt l) (by decide)
theorem crcF_take {l : List UInt8} {i : Nat} (h : i < l.length) : crcF (l.take (i + 1)) = crcBits 8 (crcF (l.take i) ^^^ (l.getD i 0).toNat) := by
  rw [List.take_succ_eq_append_getElem h, crcF, List.foldl_append, List.getD_eq_getElem?_getD, List.getElem?_eq_getElem h]
  rfl
def frmGo : Nat → List UInt8 → List PV × Nat × Int
  | 0, _ => ([], 0, 0)
  | k + 1, r => if r = [] then ([], 0, 0) else if r.length < 7 then ([], 0, 14) else if inB (numB (r.take 3)) 1 65536 = false then ([], 0, 8) else
    if (r.length : Int) < 7 + numB (r.take 3) then ([], 0, 14) else if numB ((r.drop 3).take 4) ≠ crcN (r.take 3 ++ (r.drop 7).take (numB (r.take 3)).toNat) then ([], 0, 8) else
      (.str ((r.drop 7).take (numB (r.take 3)).toNat) :: (frmGo k (r.drop (7 + (numB (r.take 3)).toNat))).1, 7 + (numB (r.take 3)).toNat + (frmGo k (r.drop (7 + (numB (r.take 3)).toNat))).2.1, (frmGo k (r.drop (7 + (numB (r.take 3)).toNat))).2.2)
def frmR (b : List UInt8) : List PV × Nat × Int := frmGo b.length b
theorem frmGo_nil (k : Nat) : frmGo k [] = ([], 0, 0) := by cases k <;> simp [frmGo]
theorem frmGo_a {k : Nat} {r : List UInt8} (h0 : r ≠ []) (h : r.length < 7) : frmGo (k + 1) r = ([], 0, 14) := by simp [frmGo, h0, h]
theorem frmGo_b {k : Nat} {r : List UInt8} (h : 7 ≤ r.length) (h1 : inB (numB (r.take 3)) 1 65536 = false) : frmGo (k + 1) r = ([], 0, 8) := by
  have h0 : r ≠ [] := by intro e; subst e; simp at h
  rw [frmGo, if_neg h0, if_neg (by omega), if_pos h1]
theorem frmGo_c {k : Nat} {r : List UInt8} (h : 7 ≤ r.length) (h1 : inB (numB (r.take 3)) 1 65536 = true) (h2 : (r.length : Int) < 7 + numB (r.take 3)) : frmGo (k + 1) r = ([], 0, 14) := by
  have h0 : r ≠ [] := by intro e; subst e; simp at h
  rw [frmGo, if_neg h0, if_neg (by omega), if_neg (by simp [h1]), if_pos h2]
theorem frmGo_d {k : Nat} {r : List UInt8} (h : 7 ≤ r.length) (h1 : inB (numB (r.take 3)) 1 65536 = true) (h2 : 7 + numB (r.take 3) ≤ (r.length : Int)) (h3 : numB ((r.drop 3).take 4) ≠ crcN (r.take 3 ++ (r.drop 7).take (numB (r.take 3)).toNat)) : frmGo (k + 1) r = ([], 0, 8) := by
  have h0 : r ≠ [] := by intro e; subst e; simp at h
  rw [frmGo, if_neg h0, if_neg (by omega), if_neg (by simp [h1]), if_neg (by omega), if_pos h3]
theorem frmGo_e {k : Nat} {r : List UInt8} (h : 7 ≤ r.length) (h1 : inB (numB (r.take 3)) 1 65536 = true) (h2 : 7 + numB (r.take 3) ≤ (r.length : Int)) (h3 : numB ((r.drop 3).take 4) = crcN (r.take 3 ++ (r.drop 7).take (numB (r.take 3)).toNat)) : frmGo (k + 1) r =
    (.str ((r.drop 7).take (numB (r.take 3)).toNat) :: (frmGo k (r.drop (7 + (numB (r.take 3)).toNat))).1, 7 + (numB (r.take 3)).toNat + (frmGo k (r.drop (7 + (numB (r.take 3)).toNat))).2.1, (frmGo k (r.drop (7 + (numB (r.take 3)).toNat))).2.2) := by
  have h0 : r ≠ [] := by intro e; subst e; simp at h
  rw [frmGo, if_neg h0, if_neg (by omega), if_neg (by simp [h1]), if_neg (by omega), if_neg (by simp [h3])]
theorem frmGo_le : ∀ (k : Nat) (r : List UInt8), (frmGo k r).2.1 ≤ r.length ∧ (frmGo k r).1.length ≤ (frmGo k r).2.1
  | 0, r => by simp [frmGo]
  | k + 1, r => by
    rw [frmGo]
    split
    · simp
    split
    · simp
    split
    · simp
    split
    · simp
    split
    · simp
    · rename_i h1 h2 h3 h4 h5
      have ih := frmGo_le k (r.drop (7 + (numB (r.take 3)).toNat))
      rw [List.length_drop] at ih
      simp [inB] at h3
      simp only [List.length_cons]
      omega
theorem frmGo_mem : ∀ (k : Nat) (r : List UInt8), ∀ e ∈ (frmGo k r).1, ∃ d, e = .str d ∧ 1 ≤ d.length ∧ d.length ≤ 65536
  | 0, r, e, he => by simp [frmGo] at he
  | k + 1, r, e, he => by
    rw [frmGo] at he
    split at he
    · simp at he
    split at he
    · simp at he
    split at he
    · simp at he
    split at he
    · simp at he
    split at he
    · simp at he
    · rename_i h1 h2 h3 h4 h5
      simp [inB] at h3
      rcases List.mem_cons.1 he with rfl | he
      · refine ⟨_, rfl, ?_, ?_⟩ <;> rw [List.length_take, List.length_drop] <;> omega
      · exact frmGo_mem k _ e he
end Go.Proofs.YtkofjkjcbljkdaaGreatDoor
end

section
namespace Go.Proofs.YtkofjkjcbljkdaaGreatDoor
variable [LaidG]
set_option maxRecDepth 100000
set_option linter.unusedSimpArgs false
theorem bv32 {a : Nat} (h : a < 4294967296) : (BitVec.ofInt 32 (a : Int)).toNat = a := by
  rw [BitVec.ofInt_natCast, BitVec.toNat_ofNat]; exact Nat.mod_eq_of_lt h
theorem bv64 {a : Nat} (h : a < 4294967296) : (BitVec.ofInt 64 (a : Int)).toNat = a := by
  rw [BitVec.ofInt_natCast, BitVec.toNat_ofNat]; exact Nat.mod_eq_of_lt (by omega)
theorem wrapU32 {n : Int} (h : 0 ≤ n ∧ n < 4294967296) : IntKind.u32.wrap n = n := by
  simp [IntKind.wrap, IntKind.signed, IntKind.bits]; omega
theorem xorU {a b : Nat} (ha : a < 4294967296) (hb : b < 4294967296) : xorI .u32 (a : Int) (b : Int) = ((a ^^^ b : Nat) : Int) := by
  have h : xorI .u32 (a : Int) (b : Int) = IntKind.u32.wrap (((BitVec.ofInt 32 (a : Int) ^^^ BitVec.ofInt 32 (b : Int)).toNat : Nat) : Int) := rfl
  rw [h, BitVec.toNat_xor, bv32 ha, bv32 hb]
  have := xor_lt ha hb
  exact wrapU32 (by omega)
theorem xorL {a b : Nat} (ha : a < 4294967296) (hb : b < 4294967296) : xorI .i64 (a : Int) (b : Int) = ((a ^^^ b : Nat) : Int) := by
  have h : xorI .i64 (a : Int) (b : Int) = IntKind.i64.wrap (((BitVec.ofInt 64 (a : Int) ^^^ BitVec.ofInt 64 (b : Int)).toNat : Nat) : Int) := rfl
  rw [h, BitVec.toNat_xor, bv64 ha, bv64 hb]
  have := xor_lt ha hb
  exact wrap64 (by omega)
theorem andU {a : Nat} (ha : a < 4294967296) : andI .u32 (a : Int) 1 = ((a % 2 : Nat) : Int) := by
  have h : andI .u32 (a : Int) 1 = IntKind.u32.wrap (((BitVec.ofInt 32 (a : Int) &&& BitVec.ofInt 32 ((1 : Nat) : Int)).toNat : Nat) : Int) := rfl
  rw [h, BitVec.toNat_and, bv32 ha, bv32 (by omega), Nat.and_one_is_mod]
  exact wrapU32 (by omega)
theorem shrU {a : Nat} : shrI .u32 (a : Int) 1 = ((a / 2 : Nat) : Int) := by
  have : shrI .u32 (a : Int) 1 = (a : Int).fdiv 2 := rfl
  rw [this, Int.fdiv_eq_ediv_of_nonneg _ (by omega)]; omega
theorem xorU_k {a : Nat} (ha : a < 4294967296) : xorI .u32 (a : Int) 3988292384 = ((a ^^^ 3988292384 : Nat) : Int) := xorU ha (by decide)
theorem xorU_f {a : Nat} (ha : a < 4294967296) : xorI .u32 4294967295 (a : Int) = ((a ^^^ 4294967295 : Nat) : Int) := by
  have := xorU (a := 4294967295) (b := a) (by decide) ha
  rw [Nat.xor_comm] at this; exact this
theorem xorL_k {a : Nat} (ha : a < 4294967296) : xorI .i64 (a : Int) 3988292384 = ((a ^^^ 3988292384 : Nat) : Int) := xorL ha (by decide)
theorem xorL_f {a : Nat} (ha : a < 4294967296) : xorI .i64 (a : Int) 4294967295 = ((a ^^^ 4294967295 : Nat) : Int) := xorL ha (by decide)
theorem bytesPV_id : ∀ {s : List PV}, (∀ e ∈ s, ∃ n, e = PV.int IntKind.u8 n ∧ inR .u8 n) → bytesPV (pvBytes s) = s
  | [], _ => rfl
  | e :: s, h => by
    obtain ⟨n, rfl, hn⟩ := h e (by simp)
    have ih := bytesPV_id (s := s) fun x hx => h x (by simp [hx])
    simp only [inR, IntKind.min, IntKind.max, IntKind.signed, IntKind.bits] at hn
    have : ((UInt8.ofNat n.toNat).toNat : Int) = n := by
      rw [UInt8.toNat_ofNat']
      have h0 : 0 ≤ n := hn.1
      have h1 : n ≤ 255 := hn.2
      omega
    simp only [pvBytes, bytesPV, List.map_cons, pv_I, this] at ih ⊢
    rw [ih]
theorem nth_bytes {l : List UInt8} {i : Nat} (h : i < l.length) : nth (bytesPV l) i = .int .u8 (l.getD i 0).toNat := by
  simp [bytesPV, nth, h]
def c_check32 : FSpec := ⟨[(.rd, .str)], [.int .i64], true, fun ps => (nth ps 0).S.length ≤ 1048576, fun ps => [.int .i64 (crcN (nth ps 0).S)], fun _ => []⟩
theorem k_check32 : FnOk Tryz.prog 230 c_check32 := by
  refine fn_mk [0, 2, 3, 4, 5, 7, 8, 17] [.tmp 2] (env_nil (tyTab_ok [])) mixed Tryz.func230 rfl (by decide) rfl (by decide) rfl ?_
  intro ps hT hpre W hW
  simp only [c_check32, TyA, Ty, Tys] at hT hpre
  obtain ⟨_, _, rfl, ⟨l, rfl, hl⟩, rfl⟩ := hT
  simp only [nth_zero, pv_S] at hpre
  refine hW.vc [] _ _ ?_
  simp [-List.getD_eq_getElem?_getD, c_check32]
  refine fun _ => hW.loopS _ _ _ [.sl 3 .dp (.int .u32), .sl 8 .dp (.int .i64)] (fun ys => ∃ i : Nat, ys = [.int .u32 (crcF (l.take i)), .int .i64 i] ∧ i ≤ l.length) (fun ys => l.length - (nth ys 1).I.toNat) ?_ ?_
  · simp [-List.getD_eq_getElem?_getD, c_check32]
    exact ⟨0, ⟨rfl, rfl⟩, by omega⟩
  · rintro ys ⟨i, rfl, h1⟩
    have hc := crcF_lt (l.take i)
    refine hW.vc [] _ _ ?_
    simp [-List.getD_eq_getElem?_getD, c_check32]
    refine ⟨fun h2 => ⟨h2, ?_⟩, fun h2 => ?_⟩
    · have h8 := (l.getD i 0).toNat_lt
      have e1 : IntKind.u32.wrap ((l.getD i 0).toNat : Int) = ((l.getD i 0).toNat : Int) := wrapU32 (by omega)
      rw [e1, xorU hc (by omega)]
      have hx := xor_lt hc (show (l.getD i 0).toNat < 4294967296 by omega)
      have hs := crcF_take h2
      generalize crcF (l.take i) ^^^ (l.getD i 0).toNat = x at *
      refine hW.loopS _ _ _ [.sl 3 .dp (.int .u32), .sl 17 .dp (.int .i64)] (fun ys => ∃ j : Nat, ys = [.int .u32 (crcBits j x), .int .i64 j] ∧ j ≤ 8) (fun ys => 8 - (nth ys 1).I.toNat) ?_ ?_
      · simp [-List.getD_eq_getElem?_getD, c_check32]
        exact ⟨0, ⟨rfl, rfl⟩, by omega⟩
      · rintro ys ⟨j, rfl, g1⟩
        have hb := crcBits_lt hx j
        refine hW.vc [] _ _ ?_
        simp [-List.getD_eq_getElem?_getD, c_check32]
        rw [andU hb, shrU, xorU_k (by omega), wrap64 (n := (j : Int) + 1) (by omega), wrap64 (n := (i : Int) + 1) (by omega)]
        refine ⟨fun g2 => ⟨fun g3 => ⟨⟨j + 1, ⟨?_, by omega⟩, by omega⟩, by omega⟩, fun g3 => ⟨⟨j + 1, ⟨?_, by omega⟩, by omega⟩, by omega⟩⟩, fun g2 => ⟨⟨i + 1, ⟨?_, by omega⟩, by omega⟩, by omega⟩⟩
        · rw [crcBits, crcBit, if_pos (by omega)]
        · rw [crcBits, crcBit, if_neg (by omega)]
        · rw [hs]
          have : j = 8 := by omega
          rw [this]
    · rw [List.take_of_length_le h2] at hc ⊢
      rw [xorU_f hc]
      have := crcN_lt l
      exact wrap64 (by unfold crcN at this; omega)
def c_l01Check : FSpec := ⟨[(.rd, .list (.int .u8))], [.int .i64], true, fun ps => (nth ps 0).L.length ≤ 1048576, fun ps => [.int .i64 (crcN (pvBytes (nth ps 0).L))], fun _ => []⟩
theorem k_l01Check : FnOk Tryz.prog 186 c_l01Check := by
  refine fn_mk [0, 2, 3, 4, 5] [.tmp 2] (env_nil (tyTab_ok [])) mixed Tryz.func186 rfl (by decide) rfl (by decide) rfl ?_
  intro ps hT hpre W hW
  simp only [c_l01Check, TyA, Ty, Tys] at hT hpre
  obtain ⟨_, _, rfl, ⟨es, rfl, hes, tes⟩, rfl⟩ := hT
  simp only [nth_zero, pv_L] at hpre
  obtain ⟨l, hl⟩ : ∃ l, l = pvBytes es := ⟨_, rfl⟩
  have he := bytesPV_id tes
  rw [← hl] at he
  subst he
  rw [bytesPV_len] at hpre
  refine hW.vc [] _ _ ?_
  simp [-List.getD_eq_getElem?_getD, c_l01Check]
  refine hW.loopS _ _ _ [.sl 3 .dp (.int .i64), .sl 4 .dp (.int .i64)] (fun ys => ∃ i : Nat, ys = [.int .i64 (crcF (l.take i)), .int .i64 i] ∧ i ≤ l.length) (fun ys => l.length - (nth ys 1).I.toNat) ?_ ?_
  · simp [-List.getD_eq_getElem?_getD, c_l01Check]
    exact ⟨0, ⟨rfl, rfl⟩, by omega⟩
  · rintro ys ⟨i, rfl, h1⟩
    have hc := crcF_lt (l.take i)
    refine hW.vc [] _ _ ?_
    simp [-List.getD_eq_getElem?_getD, c_l01Check]
    rw [bytesPV_len]
    refine fun _ => ⟨fun h2 => ⟨h2, fun _ => ?_⟩, fun h2 => ?_⟩
    · have h8 := (l.getD i 0).toNat_lt
      rw [nth_bytes h2, pv_I, conv_byte, xorL hc (by omega)]
      have hx := xor_lt hc (show (l.getD i 0).toNat < 4294967296 by omega)
      have hs := crcF_take h2
      generalize crcF (l.take i) ^^^ (l.getD i 0).toNat = x at *
      refine hW.loopS _ _ _ [.sl 3 .dp (.int .i64), .sl 5 .dp (.int .i64)] (fun ys => ∃ j : Nat, ys = [.int .i64 (crcBits j x), .int .i64 j] ∧ j ≤ 8) (fun ys => 8 - (nth ys 1).I.toNat) ?_ ?_
      · simp [-List.getD_eq_getElem?_getD, c_l01Check]
        exact ⟨0, ⟨rfl, rfl⟩, by omega⟩
      · rintro ys ⟨j, rfl, g1⟩
        have hb := crcBits_lt hx j
        refine hW.vc [] _ _ ?_
        simp [-List.getD_eq_getElem?_getD, c_l01Check]
        have e2 : ((crcBits j x : Nat) : Int).tmod 2 = ((crcBits j x % 2 : Nat) : Int) := by rw [Int.tmod_eq_emod_of_nonneg (by omega)]; omega
        have e3 : ((crcBits j x : Nat) : Int) / 2 = ((crcBits j x / 2 : Nat) : Int) := by omega
        rw [e2, e3, wrap64 (n := ((crcBits j x / 2 : Nat) : Int)) (by omega), xorL_k (by omega), wrap64 (n := (j : Int) + 1) (by omega), wrap64 (n := (i : Int) + 1) (by omega)]
        refine ⟨fun g2 => ⟨fun g3 => ⟨⟨j + 1, ⟨?_, by omega⟩, by omega⟩, by omega⟩, fun g3 => ⟨⟨j + 1, ⟨?_, by omega⟩, by omega⟩, by omega⟩⟩, fun g2 => ⟨⟨i + 1, ⟨?_, by omega⟩, by omega⟩, by omega⟩⟩
        · rw [crcBits, crcBit, if_pos (by omega)]
        · rw [crcBits, crcBit, if_neg (by omega)]
        · rw [hs]
          have : j = 8 := by omega
          rw [this]
    · rw [List.take_of_length_le h2] at hc ⊢
      rw [xorL_f hc, pvBytes_bytes]
      rfl
end Go.Proofs.YtkofjkjcbljkdaaGreatDoor
end

section
namespace Go.Proofs.YtkofjkjcbljkdaaGreatDoor
variable [LaidG]
set_option maxRecDepth 100000
set_option linter.unusedSimpArgs false
def c_readFrames : FSpec := ⟨[(.rd, .str)], [.list .str, .int .i64, .int .i64], true, fun ps => (nth ps 0).S.length ≤ 900000, fun ps => [.list (frmR (nth ps 0).S).1, .int .i64 (frmR (nth ps 0).S).2.1, .int .i64 (frmR (nth ps 0).S).2.2], fun _ => []⟩
theorem k_readFrames : FnOk Tryz.prog 197 c_readFrames := by
  refine fn_mk [0, 2, 3, 4, 5, 6, 7, 8, 9] [.tmp 2, .tmp 3, .tmp 4] (env_cons (cs := []) k_check32 (env_cons (cs := []) k_within (env_cons (cs := []) k_bigNumber (env_nil (tyTab_ok []))))) mixed Tryz.func197 rfl (by decide) rfl (by decide) rfl ?_
  intro ps hT hpre W hW
  simp only [c_readFrames, TyA, Ty, Tys] at hT hpre
  obtain ⟨_, _, rfl, ⟨b, rfl, hb⟩, rfl⟩ := hT
  simp only [nth_zero, pv_S] at hpre
  refine hW.vc [(13, [], .take 0 <| .take 1 <| .take 3 <| .take 4 <| .take 5 <| .take 6 <| .alt 2 (.alt 7 (.take 8 <| .done) .stop) .stop)] _ _ ?_
  simp [-List.getD_eq_getElem?_getD, c_readFrames, c_bigNumber, c_within, c_check32, c_l02Of, c_l02Of]
  refine hW.loopS _ _ _ [.sl 5 .dp (.list .str), .sl 6 .dp (.int .i64)] (fun ys => ∃ (acc : List PV) (p : Nat), ys = [.list acc, .int .i64 p] ∧ p ≤ b.length ∧ acc.length ≤ p ∧ ∃ k : Nat, b.length ≤ p + k ∧ frmR b = (acc ++ (frmGo k (b.drop p)).1, p + (frmGo k (b.drop p)).2.1, (frmGo k (b.drop p)).2.2)) (fun ys => b.length - (nth ys 1).I.toNat) ?_ ?_
  · simp [-List.getD_eq_getElem?_getD, c_readFrames, c_bigNumber, c_within, c_check32, c_l02Of]
    exact ⟨[], 0, ⟨rfl, rfl⟩, by omega, by simp, b.length, by omega, by simp [frmR]⟩
  · rintro ys ⟨acc, p, rfl, g1, g2, k, g3, g4⟩
    refine hW.vc [(13, [], .take 0 <| .take 1 <| .take 3 <| .take 4 <| .take 5 <| .take 6 <| .alt 2 (.alt 7 (.take 8 <| .done) .stop) .stop)] _ _ ?_
    simp [-List.getD_eq_getElem?_getD, c_readFrames, c_bigNumber, c_within, c_check32, c_l02Of, c_l02Of]
    have eT : List.take (b.length - p) (List.drop p b) = List.drop p b := List.take_of_length_le (by simp)
    rw [eT]
    have hd : (b.drop p).length = b.length - p := List.length_drop
    generalize hr : b.drop p = r at *
    have hn : 0 ≤ numB (r.take 3) ∧ numB (r.take 3) < 72057594037927936 := by
      have := numB_le (l := r.take 3) (by rw [List.length_take]; omega) 3
      rwa [List.take_take, Nat.min_self] at this
    have eW : IntKind.i64.wrap (7 + numB (r.take 3)) = 7 + numB (r.take 3) := wrap64 (by omega)
    rw [eW]
    refine fun _ => ⟨fun h1 => ⟨by omega, fun _ => ⟨fun h2 => ?_, fun h2 => ⟨by omega, by omega, fun h3 => ?_, fun h3 _ => ⟨fun h4 => ?_, fun h4 => ?_⟩⟩⟩⟩, fun h1 => ?_⟩
    · have hF : frmGo k r = ([], 0, 14) := by
        obtain ⟨k, rfl⟩ : ∃ j, k = j + 1 := ⟨k - 1, by omega⟩
        exact frmGo_a (fun e => by rw [e] at hd; simp at hd; omega) (by omega)
      rw [g4, hF]; simp
    · obtain ⟨k, rfl⟩ : ∃ j, k = j + 1 := ⟨k - 1, by omega⟩
      rw [g4, frmGo_b (by omega) h3]; simp
    · obtain ⟨k, rfl⟩ : ∃ j, k = j + 1 := ⟨k - 1, by omega⟩
      rw [g4, frmGo_c (by omega) h3 (by omega)]; simp
    · obtain ⟨k, rfl⟩ : ∃ j, k = j + 1 := ⟨k - 1, by omega⟩
      have e2 : (7 + numB (r.take 3)).toNat - 7 = (numB (r.take 3)).toNat := by omega
      have h3' : 1 ≤ numB (r.take 3) ∧ numB (r.take 3) ≤ 65536 := by simpa [inB] using h3
      rw [e2]
      refine ⟨by omega, by decide +kernel, by omega, by omega, by omega, by omega, by omega, fun h5 => ?_, fun h5 => ⟨by omega, fun _ => ⟨⟨_, p + (7 + (numB (r.take 3)).toNat), ⟨rfl, by rw [wrap64 (by omega)]; omega⟩, by omega, by simp; omega, k, by omega, ?_⟩, ?_⟩⟩⟩
      · rw [g4, frmGo_d (by omega) h3 (by omega) h5]; simp
      · have e3 : b.drop (p + (7 + (numB (r.take 3)).toNat)) = r.drop (7 + (numB (r.take 3)).toNat) := by rw [← hr, List.drop_drop]
        rw [g4, frmGo_e (by omega) h3 (by omega) h5, e3]
        simp only [List.append_assoc, List.singleton_append, Prod.mk.injEq, true_and, and_true]
        omega
      · rw [wrap64 (by omega)]; omega
    · have e0 : r = [] := List.eq_nil_of_length_eq_zero (by omega)
      rw [g4, e0, frmGo_nil]; simp
def c_l02Frames : FSpec := c_readFrames
theorem k_l02Frames : FnOk Tryz.prog 146 c_l02Frames := by
  refine fn_mk [0, 2, 3, 4, 5, 6, 7, 8] [.tmp 2, .tmp 3, .tmp 4] (env_cons (cs := []) k_l01Check (env_cons (cs := []) k_l02Of (env_nil (tyTab_ok [])))) mixed Tryz.func146 rfl (by decide) rfl (by decide) rfl ?_
  intro ps hT hpre W hW
  simp only [c_l02Frames, TyA, Ty, Tys] at hT hpre
  simp only [c_readFrames, TyA, Ty, Tys] at hT hpre
  obtain ⟨_, _, rfl, ⟨b, rfl, hb⟩, rfl⟩ := hT
  simp only [nth_zero, pv_S] at hpre
  refine hW.vc [(12, [], .take 0 <| .take 1 <| .take 2 <| .take 3 <| .take 4 <| .take 5 <| .take 6 <| .take 9 <| .take 10 <| .take 11 <| .take 12 <| .take 13 <| .take 14 <| .alt 7 (.alt 8 (.alt 15 (.take 16 <| .done) .stop) .stop) .stop)] _ _ ?_
  simp [-List.getD_eq_getElem?_getD, c_l02Frames, c_l02Of, c_l01Check, c_readFrames, c_readFrames]
  refine hW.loopS _ _ _ [.sl 5 .dp (.list .str), .sl 6 .dp (.int .i64)] (fun ys => ∃ (acc : List PV) (p : Nat), ys = [.list acc, .int .i64 p] ∧ p ≤ b.length ∧ acc.length ≤ p ∧ ∃ k : Nat, b.length ≤ p + k ∧ frmR b = (acc ++ (frmGo k (b.drop p)).1, p + (frmGo k (b.drop p)).2.1, (frmGo k (b.drop p)).2.2)) (fun ys => b.length - (nth ys 1).I.toNat) ?_ ?_
  · simp [-List.getD_eq_getElem?_getD, c_l02Frames, c_l02Of, c_l01Check, c_readFrames]
    exact ⟨[], 0, ⟨rfl, rfl⟩, by omega, by simp, b.length, by omega, by simp [frmR]⟩
  · rintro ys ⟨acc, p, rfl, g1, g2, k, g3, g4⟩
    refine hW.vc [(12, [], .take 0 <| .take 1 <| .take 2 <| .take 3 <| .take 4 <| .take 5 <| .take 6 <| .take 9 <| .take 10 <| .take 11 <| .take 12 <| .take 13 <| .take 14 <| .alt 7 (.alt 8 (.alt 15 (.take 16 <| .done) .stop) .stop) .stop)] _ _ ?_
    simp [-List.getD_eq_getElem?_getD, c_l02Frames, c_l02Of, c_l01Check, c_readFrames, c_readFrames]
    have a0 : IntKind.i64.wrap ((b.length : Int) - p) = ((b.length - p : Nat) : Int) := by rw [wrap64 (by omega)]; omega
    have a3 : IntKind.i64.wrap ((p : Int) + 3) = ((p + 3 : Nat) : Int) := by rw [wrap64 (by omega)]; omega
    have a7 : IntKind.i64.wrap ((p : Int) + 7) = ((p + 7 : Nat) : Int) := by rw [wrap64 (by omega)]; omega
    rw [a0, a3, a7]
    have b3 : p + 3 - p = 3 := by omega
    have b4 : p + 7 - (p + 3) = 4 := by omega
    have hd : (b.drop p).length = b.length - p := List.length_drop
    have d3 : b.drop (p + 3) = (b.drop p).drop 3 := by rw [List.drop_drop]
    have d7 : b.drop (p + 7) = (b.drop p).drop 7 := by rw [List.drop_drop]
    simp only [Int.toNat_natCast, b3, b4, d3, d7, pvBytes_bytes, bytesPV_len]
    generalize hr : b.drop p = r at *
    have hn : 0 ≤ numB (r.take 3) ∧ numB (r.take 3) < 72057594037927936 := by
      have := numB_le (l := r.take 3) (by rw [List.length_take]; omega) 3
      rwa [List.take_take, Nat.min_self] at this
    refine fun _ => ⟨fun h1 _ => ⟨fun h2 => ?_, fun h2 => ⟨⟨by omega, by omega⟩, by omega, fun h3 => ?_, fun h3 h3' _ => ?_⟩⟩, fun h1 => ?_⟩
    · have hF : frmGo k r = ([], 0, 14) := by
        obtain ⟨k, rfl⟩ : ∃ j, k = j + 1 := ⟨k - 1, by omega⟩
        exact frmGo_a (fun e => by rw [e] at hd; simp at hd; omega) (by omega)
      rw [g4, hF]; simp
    · obtain ⟨k, rfl⟩ : ∃ j, k = j + 1 := ⟨k - 1, by omega⟩
      have h3 : inB (numB (r.take 3)) 1 65536 = false := by
        simp [inB]; omega
      rw [g4, frmGo_b (by omega) h3]; simp
    · have hb : inB (numB (r.take 3)) 1 65536 = true := by simp [inB]; omega
      have a8 : IntKind.i64.wrap (((b.length - p : Nat) : Int) - 7) = ((b.length - p : Nat) : Int) - 7 := wrap64 (by omega)
      have a9 : IntKind.i64.wrap (((p + 7 : Nat) : Int) + numB (r.take 3)) = ((p + 7 : Nat) : Int) + numB (r.take 3) := wrap64 (by omega)
      have a10 : IntKind.i64.wrap ((p : Int) + IntKind.i64.wrap (7 + numB (r.take 3))) = ((p + (7 + (numB (r.take 3)).toNat) : Nat) : Int) := by rw [wrap64 (n := 7 + numB (r.take 3)) (by omega), wrap64 (by omega)]; omega
      have e2 : (((p + 7 : Nat) : Int) + numB (r.take 3)).toNat - (p + 7) = (numB (r.take 3)).toNat := by omega
      rw [a8, a9, a10, e2]
      obtain ⟨k, rfl⟩ : ∃ j, k = j + 1 := ⟨k - 1, by omega⟩
      refine ⟨fun h4 => ?_, fun h4 => ?_⟩
      · rw [g4, frmGo_c (by omega) hb (by omega)]; simp
      · refine ⟨⟨by omega, by omega, by omega⟩, by decide +kernel, ⟨by omega, by omega⟩, by omega, ⟨by omega, by omega, by omega⟩, ?_, by omega, fun h5 => ?_, fun h5 => ⟨by omega, fun _ => ⟨⟨_, p + (7 + (numB (r.take 3)).toNat), ⟨rfl, rfl⟩, by omega, by simp; omega, k, by omega, ?_⟩, by omega⟩⟩⟩
        · rw [List.length_append, List.length_take, List.length_take, List.length_drop]; omega
        · rw [g4, frmGo_d (by omega) hb (by omega) (fun e => h5 e.symm)]; simp
        · have e3 : b.drop (p + (7 + (numB (r.take 3)).toNat)) = r.drop (7 + (numB (r.take 3)).toNat) := by rw [← hr, List.drop_drop]
          rw [g4, frmGo_e (by omega) hb (by omega) h5.symm, e3]
          simp only [List.append_assoc, List.singleton_append, Prod.mk.injEq, true_and, and_true]
          omega
    · have e0 : r = [] := List.eq_nil_of_length_eq_zero (by omega)
      rw [g4, e0, frmGo_nil]; simp
end Go.Proofs.YtkofjkjcbljkdaaGreatDoor
end

section
namespace Go.Proofs.YtkofjkjcbljkdaaGreatDoor
variable [LaidG]
set_option maxRecDepth 100000
set_option linter.unusedSimpArgs false
end Go.Proofs.YtkofjkjcbljkdaaGreatDoor
end

section
namespace Go.Proofs.YtkofjkjcbljkdaaGreatDoor
variable [LaidG]
set_option maxRecDepth 100000
set_option linter.unusedSimpArgs false
structure NdF (n : ND) : Prop where
  n1 : 1 ≤ n.nodes
  n5 : n.nodes ≤ 5
  i0 : 0 ≤ n.id
  i1 : n.id ≤ n.nodes - 1
  t0 : 0 ≤ n.term
  t1 : n.term ≤ 1000
  en : entB n.term 0 n.log = true
  l6 : n.log.length ≤ 60
  r0 : 0 ≤ n.role
  r2 : n.role ≤ 2
  ur : n.up = true ∨ n.role = 0
  c0 : 0 ≤ n.com
  c1 : n.com ≤ n.log.length
  e0 : 0 ≤ n.ela
  e1 : n.ela ≤ 1000
  w5 : 5 ≤ n.wt
  w1 : n.wt ≤ 100
  nx : (n.nx.length : Int) = n.nodes
  ms : (n.ms.length : Int) = n.nodes
  vo : voB n.nodes (-1) n.vs = true
  nm : nmB n.log.length n.nx n.ms = true
  vt : -1 ≤ n.vote ∧ n.vote ≤ 4 ∧ n.vote < n.nodes
end Go.Proofs.YtkofjkjcbljkdaaGreatDoor
end

section
namespace Go.Proofs.YtkofjkjcbljkdaaGreatDoor
variable [LaidG]
set_option maxRecDepth 100000
set_option linter.unusedSimpArgs false
def c_l08Nodes : FSpec := ⟨[(.rd, .int .i64)], [.bool], true, fun _ => True, fun ps => [.bool (inB (nth ps 0).I 1 5)], fun _ => []⟩
theorem k_l08Nodes : FnOk Tryz.prog 44 c_l08Nodes := by
  refine fn_mk [0, 2] [.tmp 2] (env_cons (cs := []) k_l01In (env_nil (tyTab_ok []))) mixed Tryz.func44 rfl (by decide) rfl (by decide) rfl ?_
  intro ps hT hpre W hW
  simp only [c_l08Nodes, TyA, Ty, Tys] at hT hpre
  obtain ⟨_, _, rfl, ⟨n, rfl, hn⟩, rfl⟩ := hT
  refine hW.vc [] _ _ ?_
  simp [-List.getD_eq_getElem?_getD, c_l08Nodes, c_l01In, c_within, c_within]
def c_l07Entry : FSpec := ⟨[(.rd, .agg [.int .i64, .str])], [.bool], true, fun _ => True, fun ps => [.bool (inB (nth (nth ps 0).A 0).I 1 1000 && leB (nth (nth ps 0).A 1).S.length 400)], fun _ => []⟩
theorem k_l07Entry : FnOk Tryz.prog 185 c_l07Entry := by
  refine fn_mk [0, 1, 2] [.tmp 2] (env_cons (cs := []) k_l01In (env_nil (tyTab_ok []))) mixed Tryz.func185 rfl (by decide) rfl (by decide) rfl ?_
  intro ps hT hpre W hW
  simp only [c_l07Entry, TyA, Ty, Tys] at hT hpre
  obtain ⟨_, _, rfl, ⟨_, rfl, _, _, rfl, ⟨y, rfl, hy⟩, _, _, rfl, ⟨c, rfl, hc⟩, rfl⟩, rfl⟩ := hT
  refine hW.vc [] _ _ ?_
  simp [-List.getD_eq_getElem?_getD, c_l07Entry, c_l01In, c_within, c_within, leB]
  exact fun _ => rfl
def c_StateOK : FSpec := c_isState
theorem k_StateOK : FnOk Tryz.prog 145 c_StateOK := by
  refine fn_mk [0, 1, 2, 3] [.tmp 2] (env_cons (cs := []) k_l07Entry (env_cons (cs := []) k_l01In (env_nil (tyTab_ok [])))) mixed Tryz.func145 rfl (by decide) rfl (by decide) rfl ?_
  intro ps hT hpre W hW
  simp only [c_StateOK, TyA, Ty, Tys] at hT hpre
  simp only [c_isState, TyA, Ty, Tys] at hT hpre
  obtain ⟨_, _, rfl, ⟨_, rfl, _, _, rfl, ⟨t, rfl, ht⟩, _, _, rfl, ⟨v, rfl, hv⟩, _, _, rfl, ⟨es, rfl, hes, tes⟩, rfl⟩, rfl⟩ := hT
  refine hW.vc [(6, [], .take 0 <| .take 1 <| .take 2 <| .take 3 <| .take 4 <| .alt 5 (.take 6 <| .take 7 <| .take 8 <| .take 9 <| .take 10 <| .take 11 <| .take 12 <| .take 13 <| .take 14 <| .take 15 <| .take 16 <| .take 17 <| .take 18 <| .take 19 <| .take 20 <| .take 21 <| .take 22 <| .take 23 <| .take 24 <| .take 25 <| .take 26 <| .take 27 <| .take 28 <| .take 29 <| .take 30 <| .take 31 <| .take 32 <| .take 33 <| .take 34 <| .take 35 <| .take 36 <| .take 37 <| .done) .stop)] _ _ ?_
  simp [-List.getD_eq_getElem?_getD, c_StateOK, c_l01In, c_l07Entry, c_isState, c_within, c_within]
  refine fun _ => ⟨fun h => ?_, fun h1 h2 h3 => ?_⟩
  · rcases h with (h | h) | h
    · simp [stB, h]
    · simp [stB, h]
    · have : ¬ (es.length : Int) ≤ 60 := by omega
      simp [stB, entsB, leB, this]
  have hq : stB t v es = entB t 0 es := by simp [stB, entsB, leB, h1, h2, h3]
  refine hW.loopS _ _ _ [.sl 3 .dp (.int .i64)] (fun ys => ∃ i : Nat, ys = [.int .i64 i] ∧ i ≤ es.length ∧ entB t 0 es = entB t (pvE es i) (es.drop i)) (fun ys => es.length - (nth ys 0).I.toNat) ?_ ?_
  · simp [-List.getD_eq_getElem?_getD, c_StateOK, c_l01In, c_l07Entry, c_isState, c_within]
    exact ⟨0, rfl, by simp, by simp [pvE]⟩
  · rintro ys ⟨i, rfl, g1, g2⟩
    refine hW.vc [(6, [], .take 0 <| .take 1 <| .take 2 <| .take 3 <| .take 4 <| .alt 5 (.take 6 <| .take 7 <| .take 8 <| .take 9 <| .take 10 <| .take 11 <| .take 12 <| .take 13 <| .take 14 <| .take 15 <| .take 16 <| .take 17 <| .take 18 <| .take 19 <| .take 20 <| .take 21 <| .take 22 <| .take 23 <| .take 24 <| .take 25 <| .take 26 <| .take 27 <| .take 28 <| .take 29 <| .take 30 <| .take 31 <| .take 32 <| .take 33 <| .take 34 <| .take 35 <| .take 36 <| .take 37 <| .done) .stop)] _ _ ?_
    simp [-List.getD_eq_getElem?_getD, c_StateOK, c_l01In, c_l07Entry, c_isState, c_within, c_within]
    have k2 : 0 < i → (IntKind.i64.wrap ((i : Int) - 1)).toNat = i - 1 := fun h => by rw [wrap64 (by omega)]; omega
    have k3 : 0 < i → IntKind.i64.wrap ((i : Int) - 1) = i - 1 := fun h => wrap64 (by omega)
    have k0 : inB t 0 1000 = true → t ≤ 1000 := fun h => by simp [inB] at h; omega
    have k1 := k0 h1
    refine fun _ => ⟨fun g3 => ⟨by decide +kernel, g3, fun _ _ _ => ⟨fun a b => ⟨⟨a, b⟩, g3⟩, fun _ => ⟨fun a b c d => ⟨⟨⟨⟨a, b⟩, c⟩, d⟩, by rw [k3 d]; omega⟩, fun a b c d => ⟨⟨⟨⟨a, b⟩, c⟩, d⟩, by rw [k2 d]; omega⟩, fun _ =>
      ⟨fun a b c d => ⟨⟨⟨⟨a, b⟩, c⟩, d⟩, g3⟩, fun _ => ⟨fun a b c => ⟨⟨⟨a, b⟩, c⟩, fun d => ⟨⟨⟨a, b⟩, c⟩, d⟩⟩, ?_⟩⟩⟩⟩⟩, ?_⟩
    · rw [drop_nth g3, entB] at g2
      refine ⟨fun g4 => ?_, fun a b c g5 => ?_⟩
      · rw [hq, g2]
        rcases g4 with ((g4 | g4) | g4) | ⟨g4, g5⟩
        · have : inB (nth (nth es i).A 0).I 1 t = false := by
            simp [inB] at g4 ⊢; intro q; have := g4 q; omega
          simp [this]
        · simp [g4]
        · have : inB (nth (nth es i).A 0).I 1 t = false := by
            simp [inB]; intro q; omega
          simp [this]
        · rw [k2 g4] at g5
          have : ¬ pvE es i ≤ (nth (nth es i).A 0).I := by rw [pvE_pos g4]; omega
          simp [this, leB]
      · rw [wrap64 (by omega)]
        have c' : inB (nth (nth es i).A 0).I 1 t = true := by simp [inB] at a ⊢; omega
        have k5 : pvE es i ≤ (nth (nth es i).A 0).I := by
          by_cases h0 : 0 < i
          · have := g5 h0
            rw [k2 h0] at this
            rw [pvE_pos h0]; exact this
          · have : pvE es i = 0 := by rw [pvE, if_pos (by omega)]
            rw [this]
            simp [inB] at a; omega
        refine ⟨⟨i + 1, by omega, by omega, ?_⟩, by omega⟩
        rw [g2, b, c', pvE_succ]
        simp [k5, leB]
    · intro g3
      rw [List.drop_eq_nil_of_le g3, entB] at g2
      rw [hq, g2]
def c_l08State : FSpec := ⟨[(.rd, .agg [.int .i64, .int .i64, .int .i64, .int .i64, .int .i64, .bool, .list (.agg [.int .i64, .str]), .int .i64, .int .i64, .int .i64, .list (.int .i64), .list (.int .i64), .list (.int .i64)])], [.agg [.int .i64, .int .i64, .list (.agg [.int .i64, .str])]], false, fun _ => True, fun ps => [.agg [nth (nth ps 0).A 2, nth (nth ps 0).A 3, nth (nth ps 0).A 6]], fun _ => []⟩
theorem k_l08State : FnOk Tryz.prog 103 c_l08State := by
  refine fn_mk [0, 1, 2] [.cell 2 146] (env_nil (tyTab_ok [])) mixed Tryz.func103 rfl (by decide) rfl (by decide) rfl ?_
  intro ps hT hpre W hW
  simp only [c_l08State, TyA, Ty, Tys] at hT hpre
  obtain ⟨_, _, rfl, ⟨_, rfl, _, _, rfl, ⟨n0, rfl, hn0⟩, _, _, rfl, ⟨n1, rfl, hn1⟩, _, _, rfl, ⟨n2, rfl, hn2⟩, _, _, rfl, ⟨n3, rfl, hn3⟩, _, _, rfl, ⟨n4, rfl, hn4⟩, _, _, rfl, ⟨u, rfl⟩, _, _, rfl, ⟨es, rfl, hes, tes⟩, _, _, rfl, ⟨n5, rfl, hn5⟩, _, _, rfl, ⟨n6, rfl, hn6⟩, _, _, rfl, ⟨n7, rfl, hn7⟩, _, _, rfl, ⟨vs, rfl, hvs, tvs⟩, _, _, rfl, ⟨xs, rfl, hxs, txs⟩, _, _, rfl, ⟨ms, rfl, hms, tms⟩, rfl⟩, rfl⟩ := hT
  refine hW.vc [] _ _ ?_
  simp [-List.getD_eq_getElem?_getD, c_l08State]
def c_sNodeOK : FSpec := c_isNode
theorem k_sNodeOK : FnOk Tryz.prog 99 c_sNodeOK := by
  refine fn_mk [0, 1, 2, 3, 4] [.tmp 2] (env_cons (cs := []) k_StateOK (env_cons (cs := []) k_l08State (env_cons (cs := []) k_l01In (env_cons (cs := []) k_l08Nodes (env_nil (tyTab_ok [])))))) mixed Tryz.func99 rfl (by decide) rfl (by decide) rfl ?_
  intro ps hT hpre W hW
  simp only [c_sNodeOK, TyA, Ty, Tys] at hT hpre
  simp only [c_isNode, TyA, Ty, Tys] at hT hpre
  obtain ⟨_, _, rfl, ⟨_, rfl, _, _, rfl, ⟨n0, rfl, hn0⟩, _, _, rfl, ⟨n1, rfl, hn1⟩, _, _, rfl, ⟨n2, rfl, hn2⟩, _, _, rfl, ⟨n3, rfl, hn3⟩, _, _, rfl, ⟨n4, rfl, hn4⟩, _, _, rfl, ⟨u, rfl⟩, _, _, rfl, ⟨es, rfl, hes, tes⟩, _, _, rfl, ⟨n5, rfl, hn5⟩, _, _, rfl, ⟨n6, rfl, hn6⟩, _, _, rfl, ⟨n7, rfl, hn7⟩, _, _, rfl, ⟨vs, rfl, hvs, tvs⟩, _, _, rfl, ⟨xs, rfl, hxs, txs⟩, _, _, rfl, ⟨ms, rfl, hms, tms⟩, rfl⟩, rfl⟩ := hT
  refine hW.vc [(6, [], .take 0 <| .take 1 <| .take 2 <| .take 3 <| .take 4 <| .take 5 <| .take 6 <| .take 7 <| .take 8 <| .alt 9 (.take 10 <| .take 11 <| .take 12 <| .take 13 <| .take 14 <| .take 15 <| .take 16 <| .take 17 <| .take 18 <| .take 19 <| .take 20 <| .take 21 <| .take 22 <| .alt 23 (.take 24 <| .take 25 <| .done) .stop) .stop), (11, [], .take 0 <| .take 1 <| .take 2 <| .take 3 <| .take 4 <| .take 5 <| .take 6 <| .take 7 <| .alt 8 (.take 9 <| .take 10 <| .take 11 <| .take 12 <| .take 13 <| .take 14 <| .take 15 <| .take 16 <| .take 17 <| .take 18 <| .take 19 <| .take 20 <| .take 21 <| .take 22 <| .take 23 <| .take 24 <| .take 25 <| .take 26 <| .take 27 <| .done) .stop)] _ _ ?_
  simp [-List.getD_eq_getElem?_getD, c_sNodeOK, c_l08Nodes, c_l01In, c_l08State, c_StateOK, c_isNode, c_within, c_isState, c_within, c_isState, ndOf]
  by_cases hA : inB n1 1 5 = true
  case neg =>
    have hno := nd_no (n0 := n0) (n1 := n1) (n2 := n2) (n3 := n3) (n4 := n4) (n5 := n5) (n6 := n6) (n7 := n7) (u := u) (es := es) (vs := vs) (xs := xs) (ms := ms) (by simp [hA])
    refine ⟨fun a => absurd a hA, fun _ => ⟨fun a => absurd a hA, ?_⟩⟩
    simp [hA, hno]
  have k1 : IntKind.i64.wrap (n1 - 1) = n1 - 1 := wrap64 (by simp [inB] at hA; omega)
  rw [k1]
  by_cases hB : inB n0 0 (n1 - 1) = true
  case neg =>
    have hno := nd_no (n0 := n0) (n1 := n1) (n2 := n2) (n3 := n3) (n4 := n4) (n5 := n5) (n6 := n6) (n7 := n7) (u := u) (es := es) (vs := vs) (xs := xs) (ms := ms) (by simp [hB])
    refine ⟨fun _ a => absurd a hB, fun _ => ⟨fun _ a => absurd a hB, ?_⟩⟩
    simp [hB, hno]
  refine ⟨fun _ _ => ⟨⟨hA, hB⟩, fun _ _ _ => ⟨fun a b c d e f g h i j => ⟨⟨⟨⟨⟨⟨⟨⟨⟨⟨a, b⟩, c⟩, d⟩, e⟩, f⟩, g⟩, h⟩, i⟩, j⟩, fun k => ⟨⟨⟨⟨⟨⟨⟨⟨⟨⟨a, b⟩, c⟩, d⟩, e⟩, f⟩, g⟩, h⟩, i⟩, j⟩, k⟩⟩, fun h => nd_no ?_, fun _ h2 h3 h4 h5 h7 h8 h9 h10 h11 h6 => ?_⟩⟩, fun h => absurd hB (by rw [h hA]; simp)⟩
  · rcases h with (((((((((h | h) | h) | h) | h) | h) | h) | h) | h) | h) | h <;> simp [h]
  have b5 : n1 ≤ 5 := by simp [inB] at hA; omega
  have hq := nd_eq (vs := vs) hA h2 h3 h4 h5 h6 h7 h8 h9 h10 h11
  refine hW.loopS _ _ _ [.sl 3 .dp (.int .i64)] (fun ys => ∃ j : Nat, ys = [.int .i64 j] ∧ j ≤ xs.length ∧ nmB es.length xs ms = nmB es.length (xs.drop j) (ms.drop j)) (fun ys => xs.length - (nth ys 0).I.toNat) ?_ ?_
  · simp [-List.getD_eq_getElem?_getD, c_sNodeOK, c_l08Nodes, c_l01In, c_l08State, c_StateOK, c_isNode, c_within, c_isState]
    exact ⟨0, rfl, by simp, by simp⟩
  · rintro ys ⟨j, rfl, q1, q2⟩
    refine hW.vc [(6, [], .take 0 <| .take 1 <| .take 2 <| .take 3 <| .take 4 <| .take 5 <| .take 6 <| .take 7 <| .take 8 <| .alt 9 (.take 10 <| .take 11 <| .take 12 <| .take 13 <| .take 14 <| .take 15 <| .take 16 <| .take 17 <| .take 18 <| .take 19 <| .take 20 <| .take 21 <| .take 22 <| .alt 23 (.take 24 <| .take 25 <| .done) .stop) .stop), (11, [], .take 0 <| .take 1 <| .take 2 <| .take 3 <| .take 4 <| .take 5 <| .take 6 <| .take 7 <| .alt 8 (.take 9 <| .take 10 <| .take 11 <| .take 12 <| .take 13 <| .take 14 <| .take 15 <| .take 16 <| .take 17 <| .take 18 <| .take 19 <| .take 20 <| .take 21 <| .take 22 <| .take 23 <| .take 24 <| .take 25 <| .take 26 <| .take 27 <| .done) .stop)] _ _ ?_
    simp [-List.getD_eq_getElem?_getD, c_sNodeOK, c_l08Nodes, c_l01In, c_l08State, c_StateOK, c_isNode, c_within, c_isState, c_within, ndOf]
    have k6 : IntKind.i64.wrap ((es.length : Int) + 1) = es.length + 1 := wrap64 (by rw [LIM] at hes; omega)
    have k7 : inB (nth xs j).I 1 (es.length + 1) = true → IntKind.i64.wrap ((nth xs j).I - 1) = (nth xs j).I - 1 := fun h => wrap64 (by rw [LIM] at hes; simp [inB] at h; omega)
    rw [k6]
    refine ⟨fun q3 => ⟨by decide +kernel, by omega, fun _ _ => ⟨fun q4 => ⟨q4, by omega⟩, fun _ => ⟨fun q4 => ⟨q4, by omega⟩, fun _ => ⟨fun q4 => ?_, fun q4 q5 => ?_⟩⟩⟩⟩, fun q3 => ?_⟩
    · rw [drop_nth (by omega : j < xs.length), drop_nth (by omega : j < ms.length), nmB] at q2
      rw [hq, q2]
      by_cases q5 : inB (nth xs j).I 1 (es.length + 1) = true
      · rw [k7 q5] at q4
        rcases q4 with q4 | q4 <;> simp [q4]
      · simp [q5]
    · rw [drop_nth (by omega : j < xs.length), drop_nth (by omega : j < ms.length), nmB] at q2
      rw [k7 q4] at q5
      rw [wrap64 (by omega)]
      exact ⟨⟨j + 1, by omega, by omega, by rw [q2, q4, q5]; simp⟩, by omega⟩
    rw [List.drop_eq_nil_of_le (by omega : xs.length ≤ j)] at q2
    have hq' : nodeB ⟨n0, n1, n2, n3, n4, u, es, n5, n6, n7, vs, xs, ms⟩ = voB n1 (-1) vs := by rw [hq, q2]; simp [nmB]
    refine hW.loopS _ _ _ [.sl 4 .dp (.int .i64)] (fun ys => ∃ i : Nat, ys = [.int .i64 i] ∧ i ≤ vs.length ∧ voB n1 (-1) vs = voB n1 (pvV vs i) (vs.drop i)) (fun ys => vs.length - (nth ys 0).I.toNat) ?_ ?_
    · simp [-List.getD_eq_getElem?_getD, c_sNodeOK, c_l08Nodes, c_l01In, c_l08State, c_StateOK, c_isNode, c_within, c_isState]
      exact ⟨0, rfl, by simp, by simp [pvV]⟩
    · rintro ys ⟨i, rfl, g1, g2⟩
      refine hW.vc [(6, [], .take 0 <| .take 1 <| .take 2 <| .take 3 <| .take 4 <| .take 5 <| .take 6 <| .take 7 <| .take 8 <| .alt 9 (.take 10 <| .take 11 <| .take 12 <| .take 13 <| .take 14 <| .take 15 <| .take 16 <| .take 17 <| .take 18 <| .take 19 <| .take 20 <| .take 21 <| .take 22 <| .alt 23 (.take 24 <| .take 25 <| .done) .stop) .stop), (11, [], .take 0 <| .take 1 <| .take 2 <| .take 3 <| .take 4 <| .take 5 <| .take 6 <| .take 7 <| .alt 8 (.take 9 <| .take 10 <| .take 11 <| .take 12 <| .take 13 <| .take 14 <| .take 15 <| .take 16 <| .take 17 <| .take 18 <| .take 19 <| .take 20 <| .take 21 <| .take 22 <| .take 23 <| .take 24 <| .take 25 <| .take 26 <| .take 27 <| .done) .stop)] _ _ ?_
      simp [-List.getD_eq_getElem?_getD, c_sNodeOK, c_l08Nodes, c_l01In, c_l08State, c_StateOK, c_isNode, c_within, c_isState, c_within, ndOf]
      rw [k1]
      have hv' : vs.length ≤ 140737488355328 := hvs
      have k2 : 0 < i → (IntKind.i64.wrap ((i : Int) - 1)).toNat = i - 1 := fun h => by rw [wrap64 (by omega)]; omega
      have k3 : 0 < i → IntKind.i64.wrap ((i : Int) - 1) = i - 1 := fun h => wrap64 (by omega)
      refine fun _ => ⟨fun g3 => ⟨by decide +kernel, g3, fun _ => ⟨fun a b => ⟨⟨a, b⟩, by rw [k3 b]; omega⟩, fun a b => ⟨⟨a, b⟩, by rw [k2 b]; omega⟩, fun _ => ⟨fun a b => ⟨⟨a, b⟩, g3⟩, fun _ => ⟨fun a => ⟨a, fun b => ⟨a, b⟩⟩, ?_⟩⟩⟩⟩, fun g3 => ?_⟩
      · rw [drop_nth g3, voB] at g2
        refine ⟨fun g4 => ?_, fun g4 g5 => ?_⟩
        · rw [hq', g2]
          rcases g4 with g4 | ⟨g4, g5⟩
          · simp [g4]
          · rw [k2 g4] at g5
            have : ¬ pvV vs i < (nth vs i).I := by rw [pvV_pos g4]; omega
            simp [this]
        · rw [wrap64 (by omega)]
          have k5 : pvV vs i < (nth vs i).I := by
            by_cases h0 : 0 < i
            · have := g5 h0
              rw [k2 h0] at this
              rw [pvV_pos h0]; exact this
            · have : pvV vs i = -1 := by rw [pvV, if_pos (by omega)]
              rw [this]
              simp [inB] at g4; omega
          refine ⟨⟨i + 1, by omega, by omega, ?_⟩, by omega⟩
          rw [g2, g4, pvV_succ]
          simp [k5]
      · rw [hq', g2, List.drop_eq_nil_of_le g3, voB]
end Go.Proofs.YtkofjkjcbljkdaaGreatDoor
end

section
namespace Go.Proofs.YtkofjkjcbljkdaaGreatDoor
variable [LaidG]
set_option maxRecDepth 100000
set_option linter.unusedSimpArgs false
end Go.Proofs.YtkofjkjcbljkdaaGreatDoor
end

section
namespace Go.Proofs.YtkofjkjcbljkdaaGreatDoor
variable [LaidG]
set_option maxRecDepth 100000
set_option linter.unusedSimpArgs false
end Go.Proofs.YtkofjkjcbljkdaaGreatDoor
end

section
namespace Go.Proofs.YtkofjkjcbljkdaaGreatDoor
variable [LaidG]
set_option maxRecDepth 100000
set_option linter.unusedSimpArgs false
structure MG where
  kind : Int
  frm : Int
  to : Int
  term : Int
  idx : Int
  lt : Int
  com : Int
  ok : Bool
  es : List PV
def mgOf (v : List PV) : MG := ⟨(nth v 0).I, (nth v 1).I, (nth v 2).I, (nth v 3).I, (nth v 4).I, (nth v 5).I, (nth v 6).I, (nth v 7).B, (nth v 8).L⟩
def MG.pv (m : MG) : PV := .agg [.int .i64 m.kind, .int .i64 m.frm, .int .i64 m.to, .int .i64 m.term, .int .i64 m.idx, .int .i64 m.lt, .int .i64 m.com, .bool m.ok, .list m.es]
end Go.Proofs.YtkofjkjcbljkdaaGreatDoor
end

section
namespace Go.Proofs.YtkofjkjcbljkdaaGreatDoor
variable [LaidG]
set_option maxRecDepth 100000
set_option linter.unusedSimpArgs false
end Go.Proofs.YtkofjkjcbljkdaaGreatDoor
end

section
namespace Go.Proofs.YtkofjkjcbljkdaaGreatDoor
variable [LaidG]
open Go.Shelf Go.RowKit Go.Lib
set_option linter.unusedVariables false
section
variable {P : Program} {ρ : Ren} {w : World}
end
end Go.Proofs.YtkofjkjcbljkdaaGreatDoor
end

section
namespace Go.Proofs.YtkofjkjcbljkdaaGreatDoor
variable [LaidG]
open Go.Shelf
set_option maxRecDepth 100000
end Go.Proofs.YtkofjkjcbljkdaaGreatDoor
end

section
namespace Go.Proofs.YtkofjkjcbljkdaaGreatDoor
variable [LaidG]
set_option maxRecDepth 100000
set_option linter.unusedSimpArgs false
structure MgF (n : ND) (m : MG) : Prop where
  k1 : 1 ≤ m.kind
  k4 : m.kind ≤ 4
  f0 : 0 ≤ m.frm
  f1 : m.frm < n.nodes
  t1 : 1 ≤ m.term
  tM : m.term ≤ 1000
  i0 : 0 ≤ m.idx
  i6 : m.idx ≤ 60
  c0 : 0 ≤ m.com
  c6 : m.com ≤ 60
  es : m.es.length ≤ 60
end Go.Proofs.YtkofjkjcbljkdaaGreatDoor
end

section
namespace Go.Proofs.YtkofjkjcbljkdaaGreatDoor
variable [LaidG]
set_option maxRecDepth 100000
set_option linter.unusedSimpArgs false
def mgB1 (m : MG) : Bool := inB m.kind 1 4 && inB m.frm 0 4 && inB m.to 0 4 && !decide (m.frm = m.to) && inB m.term 1 1000 && inB m.idx 0 60 && inB m.com 0 60 && inB m.lt 0 m.term
def mgB2 (m : MG) : Bool := entsB m.term m.es && leB m.es.length (60 - m.idx) && (decide ((m.es.length : Int) = 0) || leB m.lt (nth (nth m.es 0).A 0).I) && (ltB 0 m.idx || decide (m.lt = 0))
def mgB (m : MG) : Bool := mgB1 m && cond (m.kind == 3) (mgB2 m) (decide ((m.es.length : Int) = 0))
def c_isMessage : FSpec := ⟨[(.rd, .agg [.int .i64, .int .i64, .int .i64, .int .i64, .int .i64, .int .i64, .int .i64, .bool, .list (.agg [.int .i64, .str])])], [.bool], true, fun _ => True, fun ps => [.bool (mgB (mgOf (nth ps 0).A))], fun _ => []⟩
theorem k_isMessage : FnOk Tryz.prog 162 c_isMessage := by
  refine fn_mk [0, 1, 2] [.tmp 2] (env_cons (cs := []) k_areEntries (env_cons (cs := []) k_within (env_nil (tyTab_ok [])))) mixed Tryz.func162 rfl (by decide) rfl (by decide) rfl ?_
  intro ps hT hpre W hW
  simp only [c_isMessage, TyA, Ty, Tys] at hT hpre
  obtain ⟨_, _, rfl, ⟨_, rfl, _, _, rfl, ⟨m0, rfl, hm0⟩, _, _, rfl, ⟨m1, rfl, hm1⟩, _, _, rfl, ⟨m2, rfl, hm2⟩, _, _, rfl, ⟨m3, rfl, hm3⟩, _, _, rfl, ⟨m4, rfl, hm4⟩, _, _, rfl, ⟨m5, rfl, hm5⟩, _, _, rfl, ⟨m6, rfl, hm6⟩, _, _, rfl, ⟨m7, rfl⟩, _, _, rfl, ⟨m8, rfl, hm8, tm8⟩, rfl⟩, rfl⟩ := hT
  refine hW.vc [(5, [], .take 0 <| .take 1 <| .take 2 <| .take 3 <| .alt 4 (.take 5 <| .take 6 <| .take 7 <| .take 8 <| .take 9 <| .take 10 <| .take 11 <| .take 12 <| .take 13 <| .take 14 <| .take 15 <| .take 16 <| .take 17 <| .take 18 <| .take 19 <| .take 20 <| .take 21 <| .take 22 <| .take 23 <| .take 24 <| .take 25 <| .take 26 <| .take 27 <| .take 28 <| .take 29 <| .take 30 <| .take 31 <| .take 32 <| .take 33 <| .take 34 <| .take 35 <| .take 36 <| .take 37 <| .take 38 <| .take 39 <| .alt 40 (.done) .stop) .stop)] _ _ ?_
  simp [-List.getD_eq_getElem?_getD, c_isMessage, c_within, c_areEntries, mgOf]
  refine ⟨fun h => ?_, fun b1 b2 b3 b4 b5 b6 b7 b8 => ⟨fun h _ => ?_, fun h => ⟨by decide +kernel, fun _ _ => ⟨fun a b c => ⟨⟨⟨a, b⟩, c⟩, List.length_pos_iff.2 c⟩, fun _ => ⟨fun a b => ⟨⟨a, b⟩, fun c => ⟨⟨a, b⟩, c⟩⟩, fun a b c => ⟨⟨⟨a, b⟩, c⟩, fun d => ⟨⟨⟨a, b⟩, c⟩, d⟩⟩, ?_⟩⟩⟩⟩⟩
  · have : mgB1 ⟨m0, m1, m2, m3, m4, m5, m6, m7, m8⟩ = false := by
      rcases h with ((((((h | h) | h) | h) | h) | h) | h) | h <;> simp [mgB1, h]
    simp [mgB, this]
  · have h1 : mgB1 ⟨m0, m1, m2, m3, m4, m5, m6, m7, m8⟩ = true := by simp [mgB1, b1, b2, b3, b4, b5, b6, b7, b8]
    have hk : (m0 == 3) = false := by simp [h]
    simp only [mgB, h1, hk, cond_false, Bool.true_and]
    rw [Bool.eq_iff_iff]
    simp
  · have h1 : mgB1 ⟨m0, m1, m2, m3, m4, m5, m6, m7, m8⟩ = true := by simp [mgB1, b1, b2, b3, b4, b5, b6, b7, b8]
    have hk : (m0 == 3) = true := by simp [h]
    rw [wrap64 (n := 60 - m4) (by simp [inB] at b6; omega)]
    simp only [mgB, h1, hk, cond_true, Bool.true_and, mgB2, leB, ltB]
    rw [Bool.eq_iff_iff]
    simp
end Go.Proofs.YtkofjkjcbljkdaaGreatDoor
end

section
namespace Go.Proofs.YtkofjkjcbljkdaaGreatDoor
variable [LaidG]
set_option maxRecDepth 100000
set_option linter.unusedSimpArgs false
theorem inB_iff {x a b : Int} : inB x a b = true ↔ a ≤ x ∧ x ≤ b := by simp [inB]
structure Stp (n x : ND) (k : Int) : Prop where
  t0 : n.term ≤ x.term
  t1 : x.term ≤ n.term + k
  c : n.com ≤ x.com
  v : x.term = n.term → 0 ≤ n.vote → x.vote = n.vote
  u : x.up = n.up
  nd : x.nodes = n.nodes
  i : x.id = n.id
  rt : (n.role ≠ 0 → 1 ≤ n.term) → x.role ≠ 0 → 1 ≤ x.term
theorem Stp.refl (n : ND) : Stp n n 0 := ⟨by omega, by omega, by omega, fun _ _ => rfl, rfl, rfl, rfl, fun h => h⟩
theorem Stp.trans {a b c : ND} {k l : Int} (h : Stp a b k) (g : Stp b c l) : Stp a c (k + l) := by
  have a1 := h.t0; have a2 := h.t1; have a3 := g.t0; have a4 := g.t1; have a5 := h.c; have a6 := g.c
  refine ⟨by omega, by omega, by omega, fun e h0 => ?_, by rw [g.u, h.u], by rw [g.nd, h.nd], by rw [g.i, h.i], fun q => g.rt (h.rt q)⟩
  have e1 := h.v (by omega) h0
  rw [g.v (by omega) (by omega), e1]
theorem Stp.mono {n x : ND} {k l : Int} (h : Stp n x k) (hl : k ≤ l) : Stp n x l := ⟨h.t0, by have := h.t1; omega, h.c, h.v, h.u, h.nd, h.i, h.rt⟩
end Go.Proofs.YtkofjkjcbljkdaaGreatDoor
end

section
namespace Go.Proofs.YtkofjkjcbljkdaaGreatDoor
variable [LaidG]
set_option maxRecDepth 100000
set_option linter.unusedSimpArgs false
structure ST where
  t : Int
  v : Int
  log : List PV
def ST.pv (s : ST) : PV := .agg [.int .i64 s.t, .int .i64 s.v, .list s.log]
def ST.ok (s : ST) : Bool := stB s.t s.v s.log
def ST.no : ST := ⟨0, 0, []⟩
def ST.one : ST := ⟨0, -1, []⟩
def comL : List PV → List PV → Nat
  | a :: us, b :: vs => if eqRow2 a b = true then comL us vs + 1 else 0
  | _, _ => 0
theorem comL_le : ∀ (us vs : List PV), comL us vs ≤ us.length ∧ comL us vs ≤ vs.length
  | [], _ => by simp [comL]
  | _ :: _, [] => by simp [comL]
  | a :: us, b :: vs => by
    have := comL_le us vs
    simp only [comL]
    split <;> simp <;> omega
theorem comL_from : ∀ {us vs : List PV} {i : Nat}, i ≤ comL us vs → i < us.length → i < vs.length → (eqRow2 (nth us i) (nth vs i) = true → i + 1 ≤ comL us vs) ∧ (eqRow2 (nth us i) (nth vs i) = false → comL us vs = i)
  | [], _, _, _, h, _ => by simp at h
  | _ :: _, [], _, _, _, h => by simp at h
  | a :: us, b :: vs, 0, _, _, _ => by
    simp only [nth_zero, comL]
    refine ⟨fun h => by rw [if_pos h]; omega, fun h => by rw [if_neg (by simp [h])]⟩
  | a :: us, b :: vs, i + 1, h1, h2, h3 => by
    simp only [nth_succ, comL] at h1 ⊢
    split at h1
    · rename_i h
      rw [if_pos h]
      have := comL_from (us := us) (vs := vs) (i := i) (by omega) (by simpa using h2) (by simpa using h3)
      refine ⟨fun q => by have := this.1 q; omega, fun q => by rw [this.2 q]⟩
    · omega
def numA (fs : List PV) (i : Nat) : Int := (nth (numsR (i + 1) (nth fs 1).S) i).I
def appF (s : ST) (fs : List PV) : Option ST :=
  if (nth fs 0).S = [116] then (if fs.length = 2 ∧ (nth fs 1).S.length = 6 ∧ s.t ≤ numA fs 0 then some ⟨numA fs 0, numA fs 1, s.log⟩ else none)
  else if (nth fs 0).S = [99] then (if fs.length = 2 ∧ (nth fs 1).S.length = 3 ∧ 0 ≤ numA fs 0 ∧ numA fs 0 ≤ s.log.length - 1 then some ⟨s.t, s.v, s.log.take (numA fs 0).toNat⟩ else none)
  else if (nth fs 0).S = [101] then (if fs.length = 3 ∧ (nth fs 1).S.length = 3 then some ⟨s.t, s.v, s.log ++ [.agg [.int .i64 (numA fs 0), .str (nth fs 2).S]]⟩ else none)
  else none
def appC (s : ST) (r : List UInt8) : Option ST := if (rdI r).2 = false ∨ (rdI r).1.length < 2 then none else appF s (rdI r).1
def appI (s : ST) (r : List UInt8) : ST × Bool := match appC s r with | none => (ST.no, false) | some o => (o, o.ok)
def recGo : ST → List PV → ST × Bool
  | s, [] => (s, true)
  | s, e :: es => if (appI s e.S).2 = true then recGo (appI s e.S).1 es else (s, false)
theorem ST.facts {s : ST} (h : s.ok = true) : (0 ≤ s.t ∧ s.t ≤ 1000) ∧ (-1 ≤ s.v ∧ s.v ≤ 4) ∧ entB s.t 0 s.log = true ∧ s.log.length ≤ 60 := by
  simp only [ST.ok, stB, entsB, Bool.and_eq_true, inB_iff, leB, decide_eq_true_eq] at h
  exact ⟨h.1.1, h.1.2, h.2.1, by omega⟩
end Go.Proofs.YtkofjkjcbljkdaaGreatDoor
end

section
namespace Go.Proofs.YtkofjkjcbljkdaaGreatDoor
variable [LaidG]
set_option maxRecDepth 100000
set_option linter.unusedSimpArgs false
def rcvR (b : List UInt8) : ST × (List UInt8 × Int) × Int :=
  if (frmR b).2.2 = 8 then (ST.no, ([], 0), 8) else if (recGo ST.one (frmR b).1).2 = true then ((recGo ST.one (frmR b).1).1, (b.take (frmR b).2.1, (frmR b).2.1), 0) else (ST.no, ([], 0), 3)
def rcvS (b : List UInt8) (sure : Int) : ST × (List UInt8 × Int) × Int :=
  if (frmR b).2.2 = 8 then (ST.one, (b, sure), 8) else if (recGo ST.one (frmR b).1).2 = true then ((recGo ST.one (frmR b).1).1, (b.take (frmR b).2.1, (frmR b).2.1), 0) else ((recGo ST.one (frmR b).1).1, (b, sure), 3)
theorem rcv_S {b : List UInt8} (sure : Int) (h : (rcvR b).2.2 = 0) : rcvS b sure = rcvR b := by
  unfold rcvR rcvS at *
  split at h
  · simp at h
  · split at h
    · rename_i h1 h2; rw [if_neg h1, if_pos h2, if_neg h1, if_pos h2]
    · simp at h
theorem rcv_S_ne {b : List UInt8} (sure : Int) : (rcvS b sure).2.2 = (rcvR b).2.2 := by
  unfold rcvR rcvS
  split
  · rfl
  · split <;> rfl
end Go.Proofs.YtkofjkjcbljkdaaGreatDoor
end

section
namespace Go.Proofs.YtkofjkjcbljkdaaGreatDoor
variable [LaidG]
set_option maxRecDepth 100000
set_option linter.unusedSimpArgs false
def staOf (v : List PV) : ST := ⟨(nth v 0).I, (nth v 1).I, (nth v 2).L⟩
def c_cloneState : FSpec := ⟨[(.rd, .agg [.int .i64, .int .i64, .list (.agg [.int .i64, .str])])], [.agg [.int .i64, .int .i64, .list (.agg [.int .i64, .str])]], true, fun ps => (nth (nth ps 0).A 2).L.length ≤ 1048576, fun ps => [nth ps 0], fun _ => []⟩
theorem k_cloneState : FnOk Tryz.prog 232 c_cloneState := by
  refine fn_mk [0, 1, 2] [.cell 2 146] (env_cons (cs := []) k_CloneE (env_nil (tyTab_ok []))) mixed Tryz.func232 rfl (by decide) rfl (by decide) rfl ?_
  intro ps hT hpre W hW
  simp only [c_cloneState, TyA, Ty, Tys] at hT hpre
  obtain ⟨_, _, rfl, ⟨_, rfl, _, _, rfl, ⟨t, rfl, ht⟩, _, _, rfl, ⟨v, rfl, hv⟩, _, _, rfl, ⟨es, rfl, hes, tes⟩, rfl⟩, rfl⟩ := hT
  simp only [nth_zero, nth_succ, pv_A, pv_L] at hpre
  refine hW.vc [] _ _ ?_
  simp [-List.getD_eq_getElem?_getD, c_cloneState, c_CloneE]
  omega
def c_l07Own : FSpec := c_cloneState
theorem k_l07Own : FnOk Tryz.prog 189 c_l07Own := by
  refine fn_mk [0, 1, 2] [.cell 2 146] (env_nil (tyTab_ok [])) mixed Tryz.func189 rfl (by decide) rfl (by decide) rfl ?_
  intro ps hT hpre W hW
  simp only [c_l07Own, TyA, Ty, Tys] at hT hpre
  simp only [c_cloneState, TyA, Ty, Tys] at hT hpre
  obtain ⟨_, _, rfl, ⟨_, rfl, _, _, rfl, ⟨t, rfl, ht⟩, _, _, rfl, ⟨v, rfl, hv⟩, _, _, rfl, ⟨es, rfl, hes, tes⟩, rfl⟩, rfl⟩ := hT
  simp only [nth_zero, nth_succ, pv_A, pv_L] at hpre
  refine hW.vc [] _ _ ?_
  simp [-List.getD_eq_getElem?_getD, c_l07Own, c_cloneState, c_cloneState]
  omega
theorem somN_ok {b : List UInt8} {k : Nat} : ((somN b k).2 = true ↔ b.length = 3 * k) ∧ (b.length = 3 * k → (somN b k).1 = numsR k b) := by
  unfold somN
  split
  · rename_i h; simp [h]
  · rename_i h; simp [h]
def appV (s : ST) (ok : Bool) (F : List PV) : ST × Bool := match (if ok = false ∨ F.length < 2 then none else appF s F) with | none => (ST.no, false) | some o => (o, o.ok)
theorem appI_V (s : ST) (r : List UInt8) : appI s r = appV s (rdI r).2 (rdI r).1 := rfl
section
variable {s : ST} {ok : Bool} {F : List PV}
theorem somN2 {b : List UInt8} (h : (somN b 2).2 = true) : b.length = 6 ∧ (somN b 2).1 = numsR 2 b := by
  have := somN_ok.1.1 h
  exact ⟨by omega, somN_ok.2 this⟩
theorem somN1 {b : List UInt8} (h : (somN b 1).2 = true) : b.length = 3 ∧ (somN b 1).1 = numsR 1 b := by
  have := somN_ok.1.1 h
  exact ⟨by omega, somN_ok.2 this⟩
theorem somN2_l {b : List UInt8} (h : (somN b 2).2 = true) : (somN b 2).1.length = 2 := by rw [(somN2 h).2, numsR_len]
theorem somN1_l {b : List UInt8} (h : (somN b 1).2 = true) : (somN b 1).1.length = 1 := by rw [(somN1 h).2, numsR_len]
theorem somN2_n {b : List UInt8} (h : (somN b 2).2 = false) : b.length ≠ 6 := fun e => by
  have := somN_ok.1.2 (show b.length = 3 * 2 from e)
  rw [h] at this; cases this
theorem somN1_n {b : List UInt8} (h : (somN b 1).2 = false) : b.length ≠ 3 := fun e => by
  have := somN_ok.1.2 (show b.length = 3 * 1 from e)
  rw [h] at this; cases this
theorem ap_a (h : ok = false ∨ (F.length : Int) < 2) : appV s ok F = (ST.no, false) := by
  rw [appV, if_pos (h.imp id fun h => by omega)]
theorem ap_in (h1 : ok = true) (h2 : 2 ≤ (F.length : Int)) : appV s ok F = match appF s F with | none => (ST.no, false) | some o => (o, o.ok) := by
  rw [appV, if_neg (by simp [h1]; omega)]
theorem ap_b (h1 : ok = true) (h2 : 2 ≤ (F.length : Int)) (hw : (nth F 0).S = [116]) (hs : (somN (nth F 1).S 2).2 = false) : appV s ok F = (ST.no, false) := by
  rw [ap_in h1 h2, appF, if_pos hw, if_neg fun h => somN2_n hs h.2.1]
theorem ap_c (h1 : ok = true) (h2 : 2 ≤ (F.length : Int)) (hw : (nth F 0).S = [116]) (hs : (somN (nth F 1).S 2).2 = true) (hl : (F.length : Int) = 2) (ht : s.t ≤ (nth (somN (nth F 1).S 2).1 0).I) :
    appV s ok F = (⟨(nth (somN (nth F 1).S 2).1 0).I, (nth (somN (nth F 1).S 2).1 1).I, s.log⟩, stB (nth (somN (nth F 1).S 2).1 0).I (nth (somN (nth F 1).S 2).1 1).I s.log) := by
  obtain ⟨e1, e2⟩ := somN2 hs
  rw [e2] at ht ⊢
  have n0 : numA F 0 = (nth (numsR 2 (nth F 1).S) 0).I := by simp [numA, numsR]
  have n1 : numA F 1 = (nth (numsR 2 (nth F 1).S) 1).I := by simp [numA, numsR]
  rw [ap_in h1 h2, appF, if_pos hw, if_pos ⟨by omega, e1, by rw [n0]; exact ht⟩, n0, n1]; rfl
theorem ap_d (h1 : ok = true) (h2 : 2 ≤ (F.length : Int)) (hw : (nth F 0).S = [116]) (hs : (somN (nth F 1).S 2).2 = true) (hn : (nth F 0).S = [116] → (F.length : Int) = 2 → (nth (somN (nth F 1).S 2).1 0).I < s.t) : appV s ok F = (ST.no, false) := by
  obtain ⟨e1, e2⟩ := somN2 hs
  rw [e2] at hn
  have n0 : numA F 0 = (nth (numsR 2 (nth F 1).S) 0).I := by simp [numA, numsR]
  rw [ap_in h1 h2, appF, if_pos hw, if_neg fun h => by have := hn hw (by omega); rw [← n0] at this; omega]
theorem ap_e (h1 : ok = true) (h2 : 2 ≤ (F.length : Int)) (hw : ¬ (nth F 0).S = [116]) (hs : (somN (nth F 1).S 1).2 = false) : appV s ok F = (ST.no, false) := by
  have := somN1_n hs
  rw [ap_in h1 h2, appF, if_neg hw]
  by_cases hc : (nth F 0).S = [99]
  · rw [if_pos hc, if_neg fun h => this h.2.1]
  · rw [if_neg hc]
    by_cases he : (nth F 0).S = [101]
    · rw [if_pos he, if_neg fun h => this h.2]
    · rw [if_neg he]
theorem ap_f (h1 : ok = true) (h2 : 2 ≤ (F.length : Int)) (hw : (nth F 0).S = [99]) (hs : (somN (nth F 1).S 1).2 = true) (hl : (F.length : Int) = 2) (hi : inB (nth (somN (nth F 1).S 1).1 0).I 0 ((s.log.length : Int) - 1) = true) :
    appV s ok F = (⟨s.t, s.v, s.log.take (nth (somN (nth F 1).S 1).1 0).I.toNat⟩, stB s.t s.v (s.log.take (nth (somN (nth F 1).S 1).1 0).I.toNat)) := by
  obtain ⟨e1, e2⟩ := somN1 hs
  rw [e2] at hi ⊢
  have n0 : numA F 0 = (nth (numsR 1 (nth F 1).S) 0).I := by simp [numA, numsR]
  have hi := inB_iff.1 hi
  rw [ap_in h1 h2, appF, if_neg (by rw [hw]; decide), if_pos hw, if_pos ⟨by omega, e1, by rw [n0]; exact hi.1, by rw [n0]; exact hi.2⟩, n0]; rfl
theorem ap_g (h1 : ok = true) (h2 : 2 ≤ (F.length : Int)) (hw : (nth F 0).S = [101]) (hs : (somN (nth F 1).S 1).2 = true) (hl : (F.length : Int) = 3) :
    appV s ok F = (⟨s.t, s.v, s.log ++ [.agg [.int .i64 (nth (somN (nth F 1).S 1).1 0).I, .str (nth F 2).S]]⟩, stB s.t s.v (s.log ++ [.agg [.int .i64 (nth (somN (nth F 1).S 1).1 0).I, .str (nth F 2).S]])) := by
  obtain ⟨e1, e2⟩ := somN1 hs
  rw [e2]
  have n0 : numA F 0 = (nth (numsR 1 (nth F 1).S) 0).I := by simp [numA, numsR]
  rw [ap_in h1 h2, appF, if_neg (by rw [hw]; decide), if_neg (by rw [hw]; decide), if_pos hw, if_pos ⟨by omega, e1⟩, n0]; rfl
theorem ap_h (h1 : ok = true) (h2 : 2 ≤ (F.length : Int)) (hw : ¬ (nth F 0).S = [116]) (hs : (somN (nth F 1).S 1).2 = true) (hc : (nth F 0).S = [99] → (F.length : Int) = 2 → inB (nth (somN (nth F 1).S 1).1 0).I 0 ((s.log.length : Int) - 1) = false) (he : (nth F 0).S = [101] → ¬ (F.length : Int) = 3) : appV s ok F = (ST.no, false) := by
  obtain ⟨e1, e2⟩ := somN1 hs
  rw [e2] at hc
  have n0 : numA F 0 = (nth (numsR 1 (nth F 1).S) 0).I := by simp [numA, numsR]
  rw [ap_in h1 h2, appF, if_neg hw]
  by_cases hc' : (nth F 0).S = [99]
  · rw [if_pos hc', if_neg fun h => by
      have := hc hc' (by omega)
      rw [← n0] at this
      have h' := inB_iff.2 ⟨h.2.2.1, h.2.2.2⟩
      rw [this] at h'; cases h']
  · rw [if_neg hc']
    by_cases he' : (nth F 0).S = [101]
    · rw [if_pos he', if_neg fun h => he he' (by omega)]
    · rw [if_neg he']
end
def c_applied : FSpec := ⟨[(.rd, .agg [.int .i64, .int .i64, .list (.agg [.int .i64, .str])]), (.rd, .str)], [.agg [.int .i64, .int .i64, .list (.agg [.int .i64, .str])], .bool], true, fun ps => (nth (nth ps 0).A 2).L.length ≤ 1000, fun ps => [.agg [.int .i64 (appI (staOf (nth ps 0).A) (nth ps 1).S).1.t, .int .i64 (appI (staOf (nth ps 0).A) (nth ps 1).S).1.v, .list (appI (staOf (nth ps 0).A) (nth ps 1).S).1.log], .bool (appI (staOf (nth ps 0).A) (nth ps 1).S).2], fun _ => []⟩
set_option maxHeartbeats 0 in
theorem k_applied : FnOk Tryz.prog 198 c_applied := by
  refine fn_mk [0, 1, 2, 4, 5, 6, 7, 8, 9, 10] [.cell 4 146, .tmp 5] (env_cons (cs := []) k_isState (env_cons (cs := []) k_within (env_cons (cs := []) k_someNumbers (env_cons (cs := []) k_cloneState (env_cons (cs := []) k_readFields (env_nil (tyTab_ok []))))))) mixed Tryz.func198 rfl (by decide) rfl (by decide) rfl ?_
  intro ps hT hpre W hW
  simp only [c_applied, TyA, Ty, Tys] at hT hpre
  obtain ⟨_, _, rfl, ⟨_, rfl, _, _, rfl, ⟨t, rfl, ht⟩, _, _, rfl, ⟨v, rfl, hv⟩, _, _, rfl, ⟨es, rfl, hes, tes⟩, rfl⟩, _, _, rfl, ⟨r, rfl, hr⟩, rfl⟩ := hT
  simp only [nth_zero, nth_succ, pv_A, pv_L] at hpre
  refine hW.vc [(12, [], .take 0 <| .take 1 <| .take 2 <| .take 3 <| .take 4 <| .take 5 <| .take 6 <| .take 7 <| .take 8 <| .take 9 <| .take 10 <| .take 11 <| .take 12 <| .take 13 <| .take 14 <| .take 15 <| .take 16 <| .alt 17 (.done) .stop), (13, [7, 9], .take 0 <| .take 1 <| .take 2 <| .take 3 <| .take 6 <| .tak2 4 <| .alt 5 (.alt 7 (.take 8 <| .alt 9 (.done) .stop) .stop) (.alt 7 (.take 5 <| .take 8 <| .alt 9 (.done) .stop) .stop)), (14, [], .take 0 <| .take 1 <| .take 2 <| .take 3 <| .take 4 <| .take 5 <| .take 6 <| .take 7 <| .take 8 <| .take 9 <| .take 10 <| .take 11 <| .take 12 <| .take 13 <| .take 14 <| .take 15 <| .take 16 <| .alt 17 (.take 18 <| .alt 19 (.done) .stop) .stop), (15, [7], .take 0 <| .take 1 <| .take 2 <| .take 3 <| .take 4 <| .take 5 <| .take 6 <| .alt 7 (.done) .stop), (17, [10, 12], .take 0 <| .take 1 <| .take 2 <| .take 3 <| .take 4 <| .take 5 <| .take 6 <| .take 7 <| .take 8 <| .alt 9 (.alt 10 (.take 11 <| .alt 12 (.done) .stop) .stop) .stop), (18, [3], .take 0 <| .take 1 <| .alt 2 (.alt 3 (.alt 4 (.done) .stop) .stop) .stop)] _ _ ?_
  simp [-List.getD_eq_getElem?_getD, c_applied, c_readFields, c_cloneState, c_someNumbers, c_within, c_isState, staOf]
  rw [appI_V]
  generalize (rdI r).1 = F
  generalize (rdI r).2 = ok
  rw [wrap64 (n := (es.length : Int) - 1) (by omega)]
  repeat' (first | apply And.intro | intro _)
  all_goals clear hW
  all_goals first
    | omega
    | decide +kernel
    | (exact absurd (Eq.trans (Eq.symm ‹(nth F 0).S = [116]›) ‹(nth F 0).S = [99]›) (by decide))
    | (exact absurd (Eq.trans (Eq.symm ‹(nth F 0).S = [116]›) ‹(nth F 0).S = [101]›) (by decide))
    | contradiction
    | (rw [ap_a (s := ⟨t, v, es⟩) (ok := ok) (F := F) (by assumption)] <;> rfl)
    | (rw [ap_b (s := ⟨t, v, es⟩) (ok := ok) (F := F) (by assumption) (by assumption) (by assumption) (by assumption)] <;> rfl)
    | (rw [ap_c (s := ⟨t, v, es⟩) (ok := ok) (F := F) (by assumption) (by assumption) (by assumption) (by assumption) (by assumption) (by assumption)])
    | (rw [ap_d (s := ⟨t, v, es⟩) (ok := ok) (F := F) (by assumption) (by assumption) (by assumption) (by assumption) (by assumption)] <;> rfl)
    | (rw [ap_e (s := ⟨t, v, es⟩) (ok := ok) (F := F) (by assumption) (by assumption) (by assumption) (by assumption)] <;> rfl)
    | (rw [ap_f (s := ⟨t, v, es⟩) (ok := ok) (F := F) (by assumption) (by assumption) (by assumption) (by assumption) (by assumption) (by assumption)])
    | (rw [ap_g (s := ⟨t, v, es⟩) (ok := ok) (F := F) (by assumption) (by assumption) (by assumption) (by assumption) (by assumption)])
    | (rw [ap_h (s := ⟨t, v, es⟩) (ok := ok) (F := F) (by assumption) (by assumption) (by assumption) (by assumption) (by assumption) (by assumption)] <;> rfl)
    | (have := somN2_l ‹(somN (nth F 1).S 2).2 = true›; omega)
    | (have := somN1_l ‹(somN (nth F 1).S 1).2 = true›; omega)
    | (have := inB_iff.1 ‹inB (nth (somN (nth F 1).S 1).1 0).I 0 ((es.length : Int) - 1) = true›; omega)
def appW (s : ST) (ok : Bool) (F : List PV) : ST × Bool := match (if ok = false ∨ F.length < 2 then none else appF s F) with | none => (s, false) | some o => (o, o.ok)
def appS (s : ST) (r : List UInt8) : ST × Bool := match appC s r with | none => (s, false) | some o => (o, o.ok)
theorem appS_ok (s : ST) (r : List UInt8) : (appS s r).2 = (appI s r).2 ∧ ((appI s r).2 = true → appS s r = appI s r) := by
  unfold appS appI
  cases appC s r with
  | none => simp
  | some o => simp
section
variable {s : ST} {ok : Bool} {F : List PV}
theorem numS3 {b : List UInt8} {k : Nat} (h : (numS b).2 = true) (hl : ((numS b).1.length : Int) = k) : b.length = 3 * k ∧ (numS b).1 = numsR k b := by
  unfold numS at h hl ⊢
  split at h
  · rename_i h3
    rw [if_pos h3] at hl ⊢
    simp only [numsR_len] at hl
    have : b.length / 3 = k := by omega
    exact ⟨by omega, by simp only [this]⟩
  · cases h
theorem numS_n {b : List UInt8} (h : (numS b).2 = false) : b.length % 3 ≠ 0 := by
  unfold numS at h
  split at h
  · cases h
  · assumption
theorem numS_l {b : List UInt8} (h : (numS b).2 = true) {k : Nat} (hb : b.length = 3 * k) : ((numS b).1.length : Int) = k := by
  unfold numS at h ⊢
  rw [if_pos (by omega)]
  simp only [numsR_len]; omega
theorem aw_a (h : ok = false ∨ (F.length : Int) < 2) : appW s ok F = (s, false) := by
  rw [appW, if_pos (h.imp id fun h => by omega)]
theorem aw_in (h1 : ok = true) (h2 : 2 ≤ (F.length : Int)) : appW s ok F = match appF s F with | none => (s, false) | some o => (o, o.ok) := by
  rw [appW, if_neg (by simp [h1]; omega)]
theorem aw_b (h1 : ok = true) (h2 : 2 ≤ (F.length : Int)) (hs : (numS (nth F 1).S).2 = false) : appW s ok F = (s, false) := by
  have := numS_n hs
  rw [aw_in h1 h2, appF]
  by_cases ha : (nth F 0).S = [116]
  · rw [if_pos ha, if_neg fun h => by omega]
  · rw [if_neg ha]
    by_cases hc : (nth F 0).S = [99]
    · rw [if_pos hc, if_neg fun h => by omega]
    · rw [if_neg hc]
      by_cases he : (nth F 0).S = [101]
      · rw [if_pos he, if_neg fun h => by omega]
      · rw [if_neg he]
theorem aw_c (h1 : ok = true) (h2 : 2 ≤ (F.length : Int)) (hs : (numS (nth F 1).S).2 = true) (hw : (nth F 0).S = [116]) (hl : (F.length : Int) = 2) (hm : ((numS (nth F 1).S).1.length : Int) = 2) (ht : s.t ≤ (nth (numS (nth F 1).S).1 0).I) :
    appW s ok F = (⟨(nth (numS (nth F 1).S).1 0).I, (nth (numS (nth F 1).S).1 1).I, s.log⟩, stB (nth (numS (nth F 1).S).1 0).I (nth (numS (nth F 1).S).1 1).I s.log) := by
  obtain ⟨e1, e2⟩ := numS3 (k := 2) hs hm
  rw [e2] at ht ⊢
  have n0 : numA F 0 = (nth (numsR 2 (nth F 1).S) 0).I := by simp [numA, numsR]
  have n1 : numA F 1 = (nth (numsR 2 (nth F 1).S) 1).I := by simp [numA, numsR]
  rw [aw_in h1 h2, appF, if_pos hw, if_pos ⟨by omega, e1, by rw [n0]; exact ht⟩, n0, n1]; rfl
theorem aw_d (h1 : ok = true) (h2 : 2 ≤ (F.length : Int)) (hs : (numS (nth F 1).S).2 = true) (hw : (nth F 0).S = [116]) (hm : ((numS (nth F 1).S).1.length : Int) = 2) (hn : (nth (numS (nth F 1).S).1 0).I < s.t) : appW s ok F = (s, false) := by
  obtain ⟨e1, e2⟩ := numS3 (k := 2) hs hm
  rw [e2] at hn
  have n0 : numA F 0 = (nth (numsR 2 (nth F 1).S) 0).I := by simp [numA, numsR]
  rw [aw_in h1 h2, appF, if_pos hw, if_neg fun h => by rw [n0] at h; omega]
theorem aw_f (h1 : ok = true) (h2 : 2 ≤ (F.length : Int)) (hs : (numS (nth F 1).S).2 = true) (hw : (nth F 0).S = [99]) (hl : (F.length : Int) = 2) (hm : ((numS (nth F 1).S).1.length : Int) = 1) (hi : inB (nth (numS (nth F 1).S).1 0).I 0 ((s.log.length : Int) - 1) = true) :
    appW s ok F = (⟨s.t, s.v, s.log.take (nth (numS (nth F 1).S).1 0).I.toNat⟩, stB s.t s.v (s.log.take (nth (numS (nth F 1).S).1 0).I.toNat)) := by
  obtain ⟨e1, e2⟩ := numS3 (k := 1) hs hm
  rw [e2] at hi ⊢
  have n0 : numA F 0 = (nth (numsR 1 (nth F 1).S) 0).I := by simp [numA, numsR]
  have hi := inB_iff.1 hi
  rw [aw_in h1 h2, appF, if_neg (by rw [hw]; decide), if_pos hw, if_pos ⟨by omega, e1, by rw [n0]; exact hi.1, by rw [n0]; exact hi.2⟩, n0]; rfl
theorem aw_g (h1 : ok = true) (h2 : 2 ≤ (F.length : Int)) (hs : (numS (nth F 1).S).2 = true) (hw : (nth F 0).S = [101]) (hl : (F.length : Int) = 3) (hm : ((numS (nth F 1).S).1.length : Int) = 1) :
    appW s ok F = (⟨s.t, s.v, s.log ++ [.agg [.int .i64 (nth (numS (nth F 1).S).1 0).I, .str (nth F 2).S]]⟩, stB s.t s.v (s.log ++ [.agg [.int .i64 (nth (numS (nth F 1).S).1 0).I, .str (nth F 2).S]])) := by
  obtain ⟨e1, e2⟩ := numS3 (k := 1) hs hm
  rw [e2]
  have n0 : numA F 0 = (nth (numsR 1 (nth F 1).S) 0).I := by simp [numA, numsR]
  rw [aw_in h1 h2, appF, if_neg (by rw [hw]; decide), if_neg (by rw [hw]; decide), if_pos hw, if_pos ⟨by omega, e1⟩, n0]; rfl
theorem aw_h (h1 : ok = true) (h2 : 2 ≤ (F.length : Int)) (hs : (numS (nth F 1).S).2 = true) (ha : (nth F 0).S = [116] → (F.length : Int) = 2 → ¬ ((numS (nth F 1).S).1.length : Int) = 2) (hc : (nth F 0).S = [99] → (F.length : Int) = 2 → ((numS (nth F 1).S).1.length : Int) = 1 → inB (nth (numS (nth F 1).S).1 0).I 0 ((s.log.length : Int) - 1) = false) (he : (nth F 0).S = [101] → (F.length : Int) = 3 → ¬ ((numS (nth F 1).S).1.length : Int) = 1) : appW s ok F = (s, false) := by
  rw [aw_in h1 h2, appF]
  by_cases ha' : (nth F 0).S = [116]
  · rw [if_pos ha', if_neg fun h => ha ha' (by omega) (numS_l (k := 2) hs h.2.1)]
  · rw [if_neg ha']
    by_cases hc' : (nth F 0).S = [99]
    · rw [if_pos hc', if_neg fun h => by
        have hm := numS_l (k := 1) hs h.2.1
        have := hc hc' (by omega) hm
        obtain ⟨e1, e2⟩ := numS3 (k := 1) hs hm
        have n0 : numA F 0 = (nth (numsR 1 (nth F 1).S) 0).I := by simp [numA, numsR]
        rw [e2, ← n0] at this
        have h' := inB_iff.2 ⟨h.2.2.1, h.2.2.2⟩
        rw [this] at h'; cases h']
    · rw [if_neg hc']
      by_cases he' : (nth F 0).S = [101]
      · rw [if_pos he', if_neg fun h => he he' (by omega) (numS_l (k := 1) hs h.2)]
      · rw [if_neg he']
end
theorem rdS_I {r : List UInt8} (h : r.length ≤ 65536) : (rdS r).2 = (rdI r).2 ∧ ((rdI r).2 = true → (rdS r).1 = (rdI r).1) ∧ ((rdI r).2 = false → (rdS r).1 = []) := by
  unfold rdS rdI
  rw [if_neg (by omega)]
  cases rdF r with
  | none => simp
  | some x =>
    obtain ⟨es, q⟩ := x
    cases q <;> simp
theorem appS_W {s : ST} {r : List UInt8} (h : r.length ≤ 65536) : appS s r = appW s (rdS r).2 (rdS r).1 := by
  obtain ⟨h1, h2, h3⟩ := rdS_I h
  cases hk : (rdI r).2 with
  | true => rw [h1, h2 hk]; rfl
  | false =>
    rw [h1, hk, h3 hk]
    have e : appC s r = none := if_pos (.inl hk)
    rw [appS, e]
    rfl
def c_l07Apply : FSpec := ⟨[(.rd, .agg [.int .i64, .int .i64, .list (.agg [.int .i64, .str])]), (.rd, .str)], [.agg [.int .i64, .int .i64, .list (.agg [.int .i64, .str])], .bool], false, fun ps => (nth (nth ps 0).A 2).L.length ≤ 1000 ∧ (nth ps 1).S.length ≤ 65536, fun ps => [.agg [.int .i64 (appS (staOf (nth ps 0).A) (nth ps 1).S).1.t, .int .i64 (appS (staOf (nth ps 0).A) (nth ps 1).S).1.v, .list (appS (staOf (nth ps 0).A) (nth ps 1).S).1.log], .bool (appS (staOf (nth ps 0).A) (nth ps 1).S).2], fun _ => []⟩
set_option maxHeartbeats 0 in
theorem k_l07Apply : FnOk Tryz.prog 147 c_l07Apply := by
  refine fn_mk [0, 1, 2, 4, 5, 6, 7, 8, 9, 10] [.cell 4 146, .tmp 5] (env_cons (cs := []) k_StateOK (env_cons (cs := []) k_l01In (env_cons (cs := []) k_l07Own (env_cons (cs := []) k_l02ReadNumbers (env_cons (cs := []) k_l02Read (env_nil (tyTab_ok []))))))) mixed Tryz.func147 rfl (by decide) rfl (by decide) rfl ?_
  intro ps hT hpre W hW
  simp only [c_l07Apply, TyA, Ty, Tys] at hT hpre
  obtain ⟨_, _, rfl, ⟨_, rfl, _, _, rfl, ⟨t, rfl, ht⟩, _, _, rfl, ⟨v, rfl, hv⟩, _, _, rfl, ⟨es, rfl, hes, tes⟩, rfl⟩, _, _, rfl, ⟨r, rfl, hr⟩, rfl⟩ := hT
  simp only [nth_zero, nth_succ, pv_A, pv_L, pv_S] at hpre
  refine hW.vc [(10, [], .take 0 <| .take 1 <| .take 2 <| .take 3 <| .take 4 <| .take 5 <| .done), (14, [], .take 0 <| .take 1 <| .take 2 <| .take 3 <| .take 4 <| .take 5 <| .take 6 <| .take 7 <| .take 8 <| .take 9 <| .take 10 <| .take 11 <| .take 12 <| .take 13 <| .take 14 <| .take 15 <| .take 16 <| .take 17 <| .take 18 <| .take 19 <| .take 20 <| .take 21 <| .alt 22 (.take 23 <| .alt 24 (.done) .stop) .stop), (15, [7], .take 0 <| .take 1 <| .take 2 <| .take 3 <| .take 4 <| .take 5 <| .take 6 <| .alt 7 (.done) .stop), (17, [10, 12], .take 0 <| .take 1 <| .take 2 <| .take 3 <| .take 4 <| .take 5 <| .take 6 <| .take 7 <| .take 8 <| .alt 9 (.alt 10 (.take 11 <| .alt 12 (.done) .stop) .stop) .stop), (18, [3], .take 0 <| .take 1 <| .alt 2 (.alt 3 (.alt 4 (.done) .stop) .stop) .stop)] _ _ ?_
  simp [-List.getD_eq_getElem?_getD, c_l07Apply, c_l02Read, c_l02ReadNumbers, c_l07Own, c_l01In, c_StateOK, c_cloneState, c_within, c_isState, staOf, c_within, c_cloneState, c_isState]
  rw [appS_W hpre.2]
  have hfl : (rdS r).2 = true → 1 < (rdS r).1.length → (nth (rdS r).1 1).S.length ≤ 1048576 := fun h h1 => by
    have := (rdS_facts h).2.2 _ (nth_mem h1)
    omega
  generalize (rdS r).1 = F at *
  generalize (rdS r).2 = ok at *
  rw [wrap64 (n := (es.length : Int) - 1) (by omega)]
  repeat' (first | apply And.intro | intro _)
  all_goals clear hW
  all_goals first
    | omega
    | decide +kernel
    | (exact hfl (by assumption) (by omega))
    | (rw [aw_a (s := ⟨t, v, es⟩) (ok := ok) (F := F) (by assumption)])
    | (rw [aw_b (s := ⟨t, v, es⟩) (ok := ok) (F := F) (by assumption) (by assumption) (by assumption)])
    | (rw [aw_c (s := ⟨t, v, es⟩) (ok := ok) (F := F) (by assumption) (by assumption) (by assumption) (by assumption) (by assumption) (by assumption) (by assumption)])
    | (rw [aw_d (s := ⟨t, v, es⟩) (ok := ok) (F := F) (by assumption) (by assumption) (by assumption) (by assumption) (by assumption) (by assumption)])
    | (rw [aw_f (s := ⟨t, v, es⟩) (ok := ok) (F := F) (by assumption) (by assumption) (by assumption) (by assumption) (by assumption) (by assumption) (by assumption)])
    | (rw [aw_g (s := ⟨t, v, es⟩) (ok := ok) (F := F) (by assumption) (by assumption) (by assumption) (by assumption) (by assumption) (by assumption)])
    | (rw [aw_h (s := ⟨t, v, es⟩) (ok := ok) (F := F) (by assumption) (by assumption) (by assumption) (by assumption) (by assumption) (by assumption)])
    | (have := inB_iff.1 ‹inB (nth (numS (nth F 1).S).1 0).I 0 ((es.length : Int) - 1) = true›; omega)
    | trace_state
end Go.Proofs.YtkofjkjcbljkdaaGreatDoor
end

