/-
  Part 9 of the proof of FnExactWorldOK: a verification-condition generator over the program and the contracts of its functions, in the order of their use.
  Conditions: none.
-/
import Derived.Test.YtkofjkjcbljkdaaGreatDoorM8
import Derived.Shelf.Strings.Builder1
import Derived.Shelf.Strings.Builder2
import Derived.Shelf.Small.Utf8
import Derived.Shelf.Small.Strs
import Derived.Shelf.Strings.BuilderF
import Derived.Shelf.Strconv.Itoa0
import Derived.Shelf.Strconv.Itoa1
import Derived.Shelf.LaysM
import Derived.Shelf.Strconv.Itoa2
import Derived.Shelf.Strconv.Itoa3
import Derived.Shelf.Strings.Search1
import Derived.Shelf.Strings.Prefix
import Derived.Shelf.Unicode.Decode
import Derived.Shelf.Strings.Runes
import Derived.Shelf.Strings.AsciiSet
import Derived.Shelf.Bits.Mul64
import Derived.Shelf.Strings.Repeat
import Derived.Shelf.Unicode.DecodeSlow
import Derived.Shelf.Unicode.DecodeAny
import Derived.Shelf.Unicode.DecodeLast
import Derived.Shelf.Slices.Clone
import Derived.Shelf.SlicesE.Clone
import Derived.Test.YtkofjkjcbljkdaaGreatDoorProg
import Derived.Lib.ItoaNum
import Derived.OpenShut
import Derived.SizedLaws
import Derived.ReadAgain
import Derived.ProofKit
import Derived.Lib.LaidTab
set_option linter.unusedVariables false
set_option linter.unusedSimpArgs false
set_option linter.unusedSectionVars false

section
namespace Go.Proofs.YtkofjkjcbljkdaaGreatDoor
variable [LaidG]
variable [LaidN 3] [LaidN 4]
set_option maxRecDepth 100000
set_option linter.unusedSimpArgs false
def byteP (bs : List PV) (k : Nat) : Int := (nth bs k).I
def c_l01Consts : FSpec := ⟨[], [.list (.int .u32)], true, fun _ => True, fun _ => [.list G4], fun _ => []⟩
theorem k_l01Consts : FnOk Tryz.prog 250 c_l01Consts := by
  refine fn_mk [0] [.tmp 0] (env_nil (tyTab_ok [])) mixed Tryz.func250 rfl (by decide) rfl (by decide) rfl ?_
  intro ps hT hpre W hW
  simp only [c_l01Consts, TyA, Ty, Tys] at hT hpre
  obtain rfl := hT
  refine hW.vc [] _ _ ?_
  simp [-List.getD_eq_getElem?_getD, c_l01Consts]
  exact ⟨by decide, rfl⟩
theorem pv_s8 : ∀ {st : List PV}, st.length = 8 → (∀ e ∈ st, ∃ n, e = PV.int .u32 n ∧ inR .u32 n) → (s8Of st).pv = st
  | [a, b, c, d, e, f, g, h], _, ht => by
    obtain ⟨_, rfl, _⟩ := ht a (by simp)
    obtain ⟨_, rfl, _⟩ := ht b (by simp)
    obtain ⟨_, rfl, _⟩ := ht c (by simp)
    obtain ⟨_, rfl, _⟩ := ht d (by simp)
    obtain ⟨_, rfl, _⟩ := ht e (by simp)
    obtain ⟨_, rfl, _⟩ := ht f (by simp)
    obtain ⟨_, rfl, _⟩ := ht g (by simp)
    obtain ⟨_, rfl, _⟩ := ht h (by simp)
    rfl
def c_l01Block : FSpec := ⟨[(.mt, .list (.int .u32)), (.rd, .list (.int .u8)), (.rd, .list (.int .u32))], [], true, fun ps => (nth ps 0).L.length = 8 ∧ (nth ps 1).L.length = 64 ∧ (nth ps 2).L = G4, fun _ => [], fun ps => [.list (blkP G4 (nth ps 0).L (byteP (nth ps 1).L))]⟩
set_option maxHeartbeats 4000000 in
theorem k_l01Block : FnOk Tryz.prog 251 c_l01Block := by
  refine fn_mk [0, 1, 2, 6, 7, 8, 9, 10, 11, 12, 13, 14, 15, 16, 17] [] (env_cons (cs := []) k_l01Turn (env_nil (tyTab_ok []))) mixed Tryz.func251 rfl (by decide) rfl (by decide) rfl ?_
  intro ps hT hpre W hW
  simp only [c_l01Block, TyA, Ty, Tys] at hT hpre
  obtain ⟨_, _, rfl, ⟨st, rfl, hst, tst⟩, _, _, rfl, ⟨b, rfl, hb, tb⟩, _, _, rfl, ⟨ks, rfl, hks, tks⟩, rfl⟩ := hT
  simp only [nth_zero, nth_succ, pv_L] at hpre
  obtain ⟨p1, p2, p3⟩ := hpre
  have pk : ks.length = 64 := by rw [p3, G4_len]
  have bB : ∀ k, k < 64 → 0 ≤ (nth b k).I ∧ (nth b k).I ≤ 255 := fun k hk => by
    obtain ⟨n, e, h⟩ := tb _ (nth_mem (by omega : k < b.length))
    rw [e, pv_I]
    simp [inR, IntKind.min, IntKind.max, IntKind.signed, IntKind.bits] at h
    omega
  have wI : ∀ k, k < 64 → IntKind.u32.wrap (nth b k).I = (nth b k).I := fun k hk => by
    have := bB k hk
    simp [IntKind.wrap, IntKind.signed, IntKind.bits]; omega
  refine hW.vc [] _ _ ?_
  simp [-List.reduceReplicate, -List.getD_eq_getElem?_getD, c_l01Block, c_l01Turn]
  refine hW.cutS [_, _] _ _ [.ar 6 (.int .u32), .sl 7 .dp (.int .i64)] (fun ys => ys = [.list (schP (byteP b) 16 ++ List.replicate 48 (.int .u32 0)), .int .i64 16]) ?_ ?_
  · refine hW.loopS _ _ _ [.ar 6 (.int .u32), .sl 7 .dp (.int .i64)] (fun ys => ∃ i : Nat, ys = [.list (schP (byteP b) i ++ List.replicate (64 - i) (.int .u32 0)), .int .i64 i] ∧ i ≤ 16) (fun ys => 64 - (nth ys 1).I.toNat) ?_ ?_
    · simp [-List.reduceReplicate, -List.getD_eq_getElem?_getD, c_l01Block, c_l01Turn]
      exact ⟨0, ⟨rfl, rfl⟩, by omega⟩
    · rintro ys ⟨i, rfl, g1⟩
      refine hW.vc [(4, [36], .take 0 <| .take 1 <| .take 2 <| .take 3 <| .take 4 <| .take 5 <| .take 6 <| .take 7 <| .take 8 <| .take 9 <| .take 10 <| .take 11 <| .take 12 <| .take 13 <| .take 14 <| .take 15 <| .take 16 <| .take 17 <| .take 18 <| .take 19 <| .take 20 <| .take 21 <| .take 22 <| .take 23 <| .take 24 <| .take 25 <| .take 26 <| .take 27 <| .take 28 <| .take 29 <| .take 30 <| .take 31 <| .take 32 <| .take 33 <| .take 34 <| .take 35 <| .alt 36 (.done) .stop), (10, [32], .take 0 <| .take 1 <| .take 2 <| .take 3 <| .take 4 <| .take 5 <| .take 6 <| .take 7 <| .take 9 <| .take 12 <| .take 13 <| .take 16 <| .take 17 <| .take 18 <| .take 19 <| .take 20 <| .take 22 <| .take 24 <| .take 27 <| .take 28 <| .alt 8 (.alt 10 (.take 11 <| .take 14 <| .take 15 <| .take 21 <| .alt 23 (.alt 25 (.take 26 <| .take 29 <| .take 30 <| .take 31 <| .alt 32 (.done) .stop) .stop) .stop) .stop) .stop), (17, [], .take 0 <| .take 1 <| .take 2 <| .take 3 <| .take 5 <| .take 8 <| .take 12 <| .take 13 <| .take 14 <| .take 15 <| .take 16 <| .take 17 <| .take 18 <| .take 19 <| .take 20 <| .take 21 <| .take 22 <| .take 23 <| .take 25 <| .take 26 <| .take 27 <| .take 28 <| .take 30 <| .take 31 <| .take 32 <| .take 33 <| .alt 4 (.alt 6 (.take 7 <| .alt 9 (.take 10 <| .take 11 <| .take 24 <| .take 29 <| .take 34 <| .alt 35 (.done) .stop) .stop) .stop) .stop), (18, [], .take 0 <| .take 2 <| .take 5 <| .take 8 <| .take 9 <| .take 10 <| .take 11 <| .take 12 <| .take 13 <| .take 14 <| .take 15 <| .take 16 <| .take 17 <| .take 18 <| .take 19 <| .take 20 <| .take 21 <| .take 22 <| .take 23 <| .take 24 <| .take 25 <| .take 26 <| .alt 1 (.alt 3 (.take 4 <| .alt 6 (.take 7 <| .take 27 <| .alt 28 (.done) .stop) .stop) .stop) .stop), (19, [], .take 0 <| .take 1 <| .take 2 <| .take 3 <| .take 4 <| .take 5 <| .take 6 <| .take 7 <| .take 8 <| .take 9 <| .take 10 <| .take 11 <| .take 12 <| .take 13 <| .take 14 <| .take 15 <| .take 16 <| .take 17 <| .take 18 <| .take 19 <| .take 20 <| .take 21 <| .take 22 <| .take 23 <| .take 24 <| .take 25 <| .alt 26 (.alt 27 (.done) .stop) .stop), (23, [10], .take 0 <| .take 1 <| .take 2 <| .take 3 <| .take 4 <| .take 5 <| .take 6 <| .take 7 <| .take 8 <| .take 9 <| .alt 10 (.done) .stop)] _ _ ?_
      simp [-List.reduceReplicate, -List.getD_eq_getElem?_getD, c_l01Block, c_l01Turn]
      have hl := schP_len (byteP b) i
      have a0 : IntKind.i64.wrap (4 * (i : Int)) = ((4 * i : Nat) : Int) := by rw [wrap64 (by omega)]; omega
      have a1 : IntKind.i64.wrap (((4 * i : Nat) : Int) + 1) = ((4 * i + 1 : Nat) : Int) := by rw [wrap64 (by omega)]; omega
      have a2 : IntKind.i64.wrap (((4 * i : Nat) : Int) + 2) = ((4 * i + 2 : Nat) : Int) := by rw [wrap64 (by omega)]; omega
      have a3 : IntKind.i64.wrap (((4 * i : Nat) : Int) + 3) = ((4 * i + 3 : Nat) : Int) := by rw [wrap64 (by omega)]; omega
      rw [a0, a1, a2, a3]
      simp only [Int.toNat_natCast]
      rw [wrap64 (n := (i : Int) + 1) (by omega)]
      refine ⟨fun h => ?_, fun h => ?_⟩
      · rw [wI (4 * i) (by omega), wI (4 * i + 1) (by omega), wI (4 * i + 2) (by omega), wI (4 * i + 3) (by omega)]
        repeat' (first | apply And.intro | intro _)
        all_goals first | omega | decide +kernel | exact ⟨i + 1, ⟨by rw [set_at hl (by omega), schP, if_pos (by omega)]; rfl, by omega⟩, by omega⟩
      · have e : i = 16 := by omega
        subst e
        exact ⟨rfl, rfl⟩
  · rintro ys rfl
    refine hW.vc [] _ _ ?_
    simp [-List.reduceReplicate, -List.getD_eq_getElem?_getD, c_l01Block, c_l01Turn]
    refine hW.cutS [_, _] _ _ [.ar 6 (.int .u32), .sl 8 .dp (.int .i64)] (fun ys => ys = [.list (schP (byteP b) 64), .int .i64 64]) ?_ ?_
    · refine hW.loopS _ _ _ [.ar 6 (.int .u32), .sl 8 .dp (.int .i64)] (fun ys => ∃ i : Nat, ys = [.list (schP (byteP b) i ++ List.replicate (64 - i) (.int .u32 0)), .int .i64 i] ∧ 16 ≤ i ∧ i ≤ 64) (fun ys => 64 - (nth ys 1).I.toNat) ?_ ?_
      · simp [-List.reduceReplicate, -List.getD_eq_getElem?_getD, c_l01Block, c_l01Turn]
        exact ⟨16, ⟨rfl, rfl⟩, by omega, by omega⟩
      · rintro ys ⟨i, rfl, g0, g1⟩
        refine hW.vc [(4, [36], .take 0 <| .take 1 <| .take 2 <| .take 3 <| .take 4 <| .take 5 <| .take 6 <| .take 7 <| .take 8 <| .take 9 <| .take 10 <| .take 11 <| .take 12 <| .take 13 <| .take 14 <| .take 15 <| .take 16 <| .take 17 <| .take 18 <| .take 19 <| .take 20 <| .take 21 <| .take 22 <| .take 23 <| .take 24 <| .take 25 <| .take 26 <| .take 27 <| .take 28 <| .take 29 <| .take 30 <| .take 31 <| .take 32 <| .take 33 <| .take 34 <| .take 35 <| .alt 36 (.done) .stop), (10, [32], .take 0 <| .take 1 <| .take 2 <| .take 3 <| .take 4 <| .take 5 <| .take 6 <| .take 7 <| .take 9 <| .take 12 <| .take 13 <| .take 16 <| .take 17 <| .take 18 <| .take 19 <| .take 20 <| .take 22 <| .take 24 <| .take 27 <| .take 28 <| .alt 8 (.alt 10 (.take 11 <| .take 14 <| .take 15 <| .take 21 <| .alt 23 (.alt 25 (.take 26 <| .take 29 <| .take 30 <| .take 31 <| .alt 32 (.done) .stop) .stop) .stop) .stop) .stop), (17, [], .take 0 <| .take 1 <| .take 2 <| .take 3 <| .take 5 <| .take 8 <| .take 12 <| .take 13 <| .take 14 <| .take 15 <| .take 16 <| .take 17 <| .take 18 <| .take 19 <| .take 20 <| .take 21 <| .take 22 <| .take 23 <| .take 25 <| .take 26 <| .take 27 <| .take 28 <| .take 30 <| .take 31 <| .take 32 <| .take 33 <| .alt 4 (.alt 6 (.take 7 <| .alt 9 (.take 10 <| .take 11 <| .take 24 <| .take 29 <| .take 34 <| .alt 35 (.done) .stop) .stop) .stop) .stop), (18, [], .take 0 <| .take 2 <| .take 5 <| .take 8 <| .take 9 <| .take 10 <| .take 11 <| .take 12 <| .take 13 <| .take 14 <| .take 15 <| .take 16 <| .take 17 <| .take 18 <| .take 19 <| .take 20 <| .take 21 <| .take 22 <| .take 23 <| .take 24 <| .take 25 <| .take 26 <| .alt 1 (.alt 3 (.take 4 <| .alt 6 (.take 7 <| .take 27 <| .alt 28 (.done) .stop) .stop) .stop) .stop), (19, [], .take 0 <| .take 1 <| .take 2 <| .take 3 <| .take 4 <| .take 5 <| .take 6 <| .take 7 <| .take 8 <| .take 9 <| .take 10 <| .take 11 <| .take 12 <| .take 13 <| .take 14 <| .take 15 <| .take 16 <| .take 17 <| .take 18 <| .take 19 <| .take 20 <| .take 21 <| .take 22 <| .take 23 <| .take 24 <| .take 25 <| .alt 26 (.alt 27 (.done) .stop) .stop), (23, [10], .take 0 <| .take 1 <| .take 2 <| .take 3 <| .take 4 <| .take 5 <| .take 6 <| .take 7 <| .take 8 <| .take 9 <| .alt 10 (.done) .stop)] _ _ ?_
        simp [-List.reduceReplicate, -List.getD_eq_getElem?_getD, c_l01Block, c_l01Turn]
        have hl := schP_len (byteP b) i
        have c15 : IntKind.i64.wrap ((i : Int) - 15) = ((i - 15 : Nat) : Int) := by rw [wrap64 (by omega)]; omega
        have c2 : IntKind.i64.wrap ((i : Int) - 2) = ((i - 2 : Nat) : Int) := by rw [wrap64 (by omega)]; omega
        have c16 : IntKind.i64.wrap ((i : Int) - 16) = ((i - 16 : Nat) : Int) := by rw [wrap64 (by omega)]; omega
        have c7 : IntKind.i64.wrap ((i : Int) - 7) = ((i - 7 : Nat) : Int) := by rw [wrap64 (by omega)]; omega
        rw [c15, c2, c16, c7]
        simp only [Int.toNat_natCast]
        rw [nth_left (by omega : i - 15 < (schP (byteP b) i).length), nth_left (by omega : i - 2 < (schP (byteP b) i).length), nth_left (by omega : i - 16 < (schP (byteP b) i).length), nth_left (by omega : i - 7 < (schP (byteP b) i).length)]
        rw [wrap64 (n := (i : Int) + 1) (by omega)]
        refine ⟨fun h => ?_, fun h => ?_⟩
        · repeat' (first | apply And.intro | intro _)
          all_goals first | omega | decide +kernel | exact ⟨i + 1, ⟨by rw [set_at hl (by omega), schP, if_neg (by omega)]; rfl, by omega⟩, by omega, by omega⟩
        · have e : i = 64 := by omega
          subst e
          exact ⟨by simp, rfl⟩
    · rintro ys rfl
      refine hW.vc [] _ _ ?_
      simp [-List.reduceReplicate, -List.getD_eq_getElem?_getD, c_l01Block, c_l01Turn]
      refine ⟨by omega, ?_⟩
      obtain ⟨W64, hW64⟩ : ∃ L, L = schP (byteP b) 64 := ⟨_, rfl⟩
      have wl : W64.length = 64 := by rw [hW64, schP_len]
      obtain ⟨rs, hrs⟩ : ∃ rs : Nat → S8, rs = rnds G4 W64 (s8Of st) := ⟨_, rfl⟩
      have hr0 : rs 0 = s8Of st := by rw [hrs]; rfl
      have hrS : ∀ i, rs (i + 1) = (rs i).step (nth G4 i).I (nth W64 i).I := fun i => by rw [hrs]; rfl
      rw [← hW64]
      refine hW.cutS [_, _] _ _ [.sl 11 .dp (.list (.int .u32)), .sl 12 .dp (.int .i64)] (fun ys => ys = [.list (rs 64).pv, .int .i64 64]) ?_ ?_
      · refine hW.loopS _ _ _ [.sl 11 .dp (.list (.int .u32)), .sl 12 .dp (.int .i64)] (fun ys => ∃ i : Nat, ys = [.list (rs i).pv, .int .i64 i] ∧ i ≤ 64) (fun ys => 64 - (nth ys 1).I.toNat) ?_ ?_
        · simp [-List.getD_eq_getElem?_getD, c_l01Block, c_l01Turn]
          exact ⟨0, ⟨by rw [hr0, pv_s8 p1 tst], rfl⟩, by omega⟩
        · rintro ys ⟨i, rfl, g1⟩
          refine hW.vc [(4, [36], .take 0 <| .take 1 <| .take 2 <| .take 3 <| .take 4 <| .take 5 <| .take 6 <| .take 7 <| .take 8 <| .take 9 <| .take 10 <| .take 11 <| .take 12 <| .take 13 <| .take 14 <| .take 15 <| .take 16 <| .take 17 <| .take 18 <| .take 19 <| .take 20 <| .take 21 <| .take 22 <| .take 23 <| .take 24 <| .take 25 <| .take 26 <| .take 27 <| .take 28 <| .take 29 <| .take 30 <| .take 31 <| .take 32 <| .take 33 <| .take 34 <| .take 35 <| .alt 36 (.done) .stop), (10, [32], .take 0 <| .take 1 <| .take 2 <| .take 3 <| .take 4 <| .take 5 <| .take 6 <| .take 7 <| .take 9 <| .take 12 <| .take 13 <| .take 16 <| .take 17 <| .take 18 <| .take 19 <| .take 20 <| .take 22 <| .take 24 <| .take 27 <| .take 28 <| .alt 8 (.alt 10 (.take 11 <| .take 14 <| .take 15 <| .take 21 <| .alt 23 (.alt 25 (.take 26 <| .take 29 <| .take 30 <| .take 31 <| .alt 32 (.done) .stop) .stop) .stop) .stop) .stop), (17, [], .take 0 <| .take 1 <| .take 2 <| .take 3 <| .take 5 <| .take 8 <| .take 12 <| .take 13 <| .take 14 <| .take 15 <| .take 16 <| .take 17 <| .take 18 <| .take 19 <| .take 20 <| .take 21 <| .take 22 <| .take 23 <| .take 25 <| .take 26 <| .take 27 <| .take 28 <| .take 30 <| .take 31 <| .take 32 <| .take 33 <| .alt 4 (.alt 6 (.take 7 <| .alt 9 (.take 10 <| .take 11 <| .take 24 <| .take 29 <| .take 34 <| .alt 35 (.done) .stop) .stop) .stop) .stop), (18, [], .take 0 <| .take 2 <| .take 5 <| .take 8 <| .take 9 <| .take 10 <| .take 11 <| .take 12 <| .take 13 <| .take 14 <| .take 15 <| .take 16 <| .take 17 <| .take 18 <| .take 19 <| .take 20 <| .take 21 <| .take 22 <| .take 23 <| .take 24 <| .take 25 <| .take 26 <| .alt 1 (.alt 3 (.take 4 <| .alt 6 (.take 7 <| .take 27 <| .alt 28 (.done) .stop) .stop) .stop) .stop), (19, [], .take 0 <| .take 1 <| .take 2 <| .take 3 <| .take 4 <| .take 5 <| .take 6 <| .take 7 <| .take 8 <| .take 9 <| .take 10 <| .take 11 <| .take 12 <| .take 13 <| .take 14 <| .take 15 <| .take 16 <| .take 17 <| .take 18 <| .take 19 <| .take 20 <| .take 21 <| .take 22 <| .take 23 <| .take 24 <| .take 25 <| .alt 26 (.alt 27 (.done) .stop) .stop), (23, [10], .take 0 <| .take 1 <| .take 2 <| .take 3 <| .take 4 <| .take 5 <| .take 6 <| .take 7 <| .take 8 <| .take 9 <| .alt 10 (.done) .stop)] _ _ ?_
          simp [-List.getD_eq_getElem?_getD, c_l01Block, c_l01Turn, S8.pv, p3]
          rw [wrap64 (n := (i : Int) + 1) (by omega)]
          refine ⟨fun h => ?_, fun h => ?_⟩
          · repeat' (first | apply And.intro | intro _)
            all_goals first | omega | decide +kernel | exact ⟨i + 1, ⟨by rw [hrS]; simp only [S8.step, S8.p, S8.q, ← ch_xor, ← maj_xor]; and_intros <;> first | rfl | trivial, by omega⟩, by omega⟩
          · have e : i = 64 := by omega
            subst e
            and_intros <;> rfl
      · rintro ys rfl
        refine hW.vc [(4, [36], .take 0 <| .take 1 <| .take 2 <| .take 3 <| .take 4 <| .take 5 <| .take 6 <| .take 7 <| .take 8 <| .take 9 <| .take 10 <| .take 11 <| .take 12 <| .take 13 <| .take 14 <| .take 15 <| .take 16 <| .take 17 <| .take 18 <| .take 19 <| .take 20 <| .take 21 <| .take 22 <| .take 23 <| .take 24 <| .take 25 <| .take 26 <| .take 27 <| .take 28 <| .take 29 <| .take 30 <| .take 31 <| .take 32 <| .take 33 <| .take 34 <| .take 35 <| .alt 36 (.done) .stop), (10, [32], .take 0 <| .take 1 <| .take 2 <| .take 3 <| .take 4 <| .take 5 <| .take 6 <| .take 7 <| .take 9 <| .take 12 <| .take 13 <| .take 16 <| .take 17 <| .take 18 <| .take 19 <| .take 20 <| .take 22 <| .take 24 <| .take 27 <| .take 28 <| .alt 8 (.alt 10 (.take 11 <| .take 14 <| .take 15 <| .take 21 <| .alt 23 (.alt 25 (.take 26 <| .take 29 <| .take 30 <| .take 31 <| .alt 32 (.done) .stop) .stop) .stop) .stop) .stop), (17, [], .take 0 <| .take 1 <| .take 2 <| .take 3 <| .take 5 <| .take 8 <| .take 12 <| .take 13 <| .take 14 <| .take 15 <| .take 16 <| .take 17 <| .take 18 <| .take 19 <| .take 20 <| .take 21 <| .take 22 <| .take 23 <| .take 25 <| .take 26 <| .take 27 <| .take 28 <| .take 30 <| .take 31 <| .take 32 <| .take 33 <| .alt 4 (.alt 6 (.take 7 <| .alt 9 (.take 10 <| .take 11 <| .take 24 <| .take 29 <| .take 34 <| .alt 35 (.done) .stop) .stop) .stop) .stop), (18, [], .take 0 <| .take 2 <| .take 5 <| .take 8 <| .take 9 <| .take 10 <| .take 11 <| .take 12 <| .take 13 <| .take 14 <| .take 15 <| .take 16 <| .take 17 <| .take 18 <| .take 19 <| .take 20 <| .take 21 <| .take 22 <| .take 23 <| .take 24 <| .take 25 <| .take 26 <| .alt 1 (.alt 3 (.take 4 <| .alt 6 (.take 7 <| .take 27 <| .alt 28 (.done) .stop) .stop) .stop) .stop), (19, [], .take 0 <| .take 1 <| .take 2 <| .take 3 <| .take 4 <| .take 5 <| .take 6 <| .take 7 <| .take 8 <| .take 9 <| .take 10 <| .take 11 <| .take 12 <| .take 13 <| .take 14 <| .take 15 <| .take 16 <| .take 17 <| .take 18 <| .take 19 <| .take 20 <| .take 21 <| .take 22 <| .take 23 <| .take 24 <| .take 25 <| .alt 26 (.alt 27 (.done) .stop) .stop), (23, [10], .take 0 <| .take 1 <| .take 2 <| .take 3 <| .take 4 <| .take 5 <| .take 6 <| .take 7 <| .take 8 <| .take 9 <| .alt 10 (.done) .stop)] _ _ ?_
        simp [-List.getD_eq_getElem?_getD, c_l01Block, c_l01Turn]
        refine hW.loopS _ _ _ [.ar 0 (.int .u32), .sl 17 .dp (.int .i64)] (fun ys => ∃ i : Nat, ys = [.list (addP st (rs 64).pv i ++ st.drop i), .int .i64 i] ∧ i ≤ 8) (fun ys => 8 - (nth ys 1).I.toNat) ?_ ?_
        · simp [-List.getD_eq_getElem?_getD, c_l01Block, c_l01Turn]
          exact ⟨0, ⟨rfl, rfl⟩, by omega⟩
        · rintro ys ⟨i, rfl, g1⟩
          refine hW.vc [(4, [36], .take 0 <| .take 1 <| .take 2 <| .take 3 <| .take 4 <| .take 5 <| .take 6 <| .take 7 <| .take 8 <| .take 9 <| .take 10 <| .take 11 <| .take 12 <| .take 13 <| .take 14 <| .take 15 <| .take 16 <| .take 17 <| .take 18 <| .take 19 <| .take 20 <| .take 21 <| .take 22 <| .take 23 <| .take 24 <| .take 25 <| .take 26 <| .take 27 <| .take 28 <| .take 29 <| .take 30 <| .take 31 <| .take 32 <| .take 33 <| .take 34 <| .take 35 <| .alt 36 (.done) .stop), (10, [32], .take 0 <| .take 1 <| .take 2 <| .take 3 <| .take 4 <| .take 5 <| .take 6 <| .take 7 <| .take 9 <| .take 12 <| .take 13 <| .take 16 <| .take 17 <| .take 18 <| .take 19 <| .take 20 <| .take 22 <| .take 24 <| .take 27 <| .take 28 <| .alt 8 (.alt 10 (.take 11 <| .take 14 <| .take 15 <| .take 21 <| .alt 23 (.alt 25 (.take 26 <| .take 29 <| .take 30 <| .take 31 <| .alt 32 (.done) .stop) .stop) .stop) .stop) .stop), (17, [], .take 0 <| .take 1 <| .take 2 <| .take 3 <| .take 5 <| .take 8 <| .take 12 <| .take 13 <| .take 14 <| .take 15 <| .take 16 <| .take 17 <| .take 18 <| .take 19 <| .take 20 <| .take 21 <| .take 22 <| .take 23 <| .take 25 <| .take 26 <| .take 27 <| .take 28 <| .take 30 <| .take 31 <| .take 32 <| .take 33 <| .alt 4 (.alt 6 (.take 7 <| .alt 9 (.take 10 <| .take 11 <| .take 24 <| .take 29 <| .take 34 <| .alt 35 (.done) .stop) .stop) .stop) .stop), (18, [], .take 0 <| .take 2 <| .take 5 <| .take 8 <| .take 9 <| .take 10 <| .take 11 <| .take 12 <| .take 13 <| .take 14 <| .take 15 <| .take 16 <| .take 17 <| .take 18 <| .take 19 <| .take 20 <| .take 21 <| .take 22 <| .take 23 <| .take 24 <| .take 25 <| .take 26 <| .alt 1 (.alt 3 (.take 4 <| .alt 6 (.take 7 <| .take 27 <| .alt 28 (.done) .stop) .stop) .stop) .stop), (19, [], .take 0 <| .take 1 <| .take 2 <| .take 3 <| .take 4 <| .take 5 <| .take 6 <| .take 7 <| .take 8 <| .take 9 <| .take 10 <| .take 11 <| .take 12 <| .take 13 <| .take 14 <| .take 15 <| .take 16 <| .take 17 <| .take 18 <| .take 19 <| .take 20 <| .take 21 <| .take 22 <| .take 23 <| .take 24 <| .take 25 <| .alt 26 (.alt 27 (.done) .stop) .stop), (23, [10], .take 0 <| .take 1 <| .take 2 <| .take 3 <| .take 4 <| .take 5 <| .take 6 <| .take 7 <| .take 8 <| .take 9 <| .alt 10 (.done) .stop)] _ _ ?_
          simp [-List.getD_eq_getElem?_getD, c_l01Block, c_l01Turn]
          rw [wrap64 (n := (i : Int) + 1) (by omega)]
          have al := addP_len st (rs 64).pv i
          have rl : (rs 64).pv.length = 8 := rfl
          refine ⟨fun h => ?_, fun h => ?_⟩
          · rw [drop_at al (by omega), drop_set al (by omega)]
            repeat' (first | apply And.intro | intro _)
            all_goals first | omega | decide +kernel | exact ⟨i + 1, ⟨rfl, by omega⟩, by omega⟩
          · have e : i = 8 := by omega
            subst e
            rw [List.drop_eq_nil_of_le (by omega), List.append_nil, blkP, hrs, hW64]
end Go.Proofs.YtkofjkjcbljkdaaGreatDoor
end

section
namespace Go.Proofs.YtkofjkjcbljkdaaGreatDoor
open Go.Shelf
def lay_lays105_ren : Go.Shelf.Ren := ⟨fun | 105 => 257 | 212 => 255 | 99 => 268 | 165 => 269 | 166 => 270 | 170 => 271 | 169 => 73 | 263 => 262 | 264 => 263 | 206 => 278 | 240 => 124 | 241 => 279 | 276 => 173 | 277 => 283 | n => n, fun | 9 => 9 | 3 => 3 | 4 => 4 | 20 => 20 | 0 => 0 | 46 => 179 | 109 => 272 | 5 => 5 | 72 => 113 | 76 => 116 | 51 => 229 | 146 => 281 | 53 => 283 | 148 => 284 | 70 => 111 | 37 => 22 | 75 => 115 | 127 => 187 | 164 => 227 | 80 => 89 | n => n, fun | n => n⟩
theorem lay_lays105 : Go.Proofs.Lays.n105 Tryz.prog lay_lays105_ren := {
  mixed := by kernel_rfl
  f99 := Tryz.func268.trans (congrArg some (by kernel_rfl))
  f105 := Tryz.func257.trans (congrArg some (by kernel_rfl))
  f165 := Tryz.func269.trans (congrArg some (by kernel_rfl))
  f166 := Tryz.func270.trans (congrArg some (by kernel_rfl))
  f169 := Tryz.func73.trans (congrArg some (by kernel_rfl))
  f170 := Tryz.func271.trans (congrArg some (by kernel_rfl))
  f206 := Tryz.func278.trans (congrArg some (by kernel_rfl))
  f212 := Tryz.func255.trans (congrArg some (by kernel_rfl))
  f240 := Tryz.func124.trans (congrArg some (by kernel_rfl))
  f241 := Tryz.func279.trans (congrArg some (by kernel_rfl))
  f263 := Tryz.func262.trans (congrArg some (by kernel_rfl))
  f264 := Tryz.func263.trans (congrArg some (by kernel_rfl))
  f276 := Tryz.func173.trans (congrArg some (by kernel_rfl))
  f277 := Tryz.func283.trans (congrArg some (by kernel_rfl))
  t0 := Tryz.underlying0
  a0 := Tryz.isAgg0
  z0 := Tryz.sizeOf0
  v0 := Tryz.zeroValue0
  t3 := Tryz.underlying3
  a3 := Tryz.isAgg3
  z3 := Tryz.sizeOf3
  v3 := Tryz.zeroValue3
  t4 := Tryz.underlying4
  a4 := Tryz.isAgg4
  z4 := Tryz.sizeOf4
  v4 := Tryz.zeroValue4
  t5 := Tryz.underlying5
  a5 := Tryz.isAgg5
  z5 := Tryz.sizeOf5
  v5 := Tryz.zeroValue5
  t9 := Tryz.underlying9
  a9 := Tryz.isAgg9
  z9 := Tryz.sizeOf9
  v9 := Tryz.zeroValue9
  t20 := Tryz.underlying20
  a20 := Tryz.isAgg20
  z20 := Tryz.sizeOf20
  v20 := Tryz.zeroValue20
  t37 := Tryz.underlying22
  a37 := Tryz.isAgg22
  z37 := Tryz.sizeOf22
  v37 := Tryz.zeroValue22
  t46 := Tryz.underlying179
  a46 := Tryz.isAgg179
  z46 := Tryz.sizeOf179
  v46 := Tryz.zeroValue179
  t51 := Tryz.underlying229
  a51 := Tryz.isAgg229
  z51 := Tryz.sizeOf229
  v51 := Tryz.zeroValue229
  t53 := Tryz.underlying283
  a53 := Tryz.isAgg283
  z53 := Tryz.sizeOf283
  v53 := Tryz.zeroValue283
  t70 := Tryz.underlying111
  a70 := Tryz.isAgg111
  z70 := Tryz.sizeOf111
  v70 := Tryz.zeroValue111
  t72 := Tryz.underlying113
  a72 := Tryz.isAgg113
  z72 := Tryz.sizeOf113
  v72 := Tryz.zeroValue113
  t75 := Tryz.underlying115
  a75 := Tryz.isAgg115
  z75 := Tryz.sizeOf115
  v75 := Tryz.zeroValue115
  t76 := Tryz.underlying116
  a76 := Tryz.isAgg116
  z76 := Tryz.sizeOf116
  v76 := Tryz.zeroValue116
  t109 := Tryz.underlying272
  a109 := Tryz.isAgg272
  z109 := Tryz.sizeOf272
  v109 := Tryz.zeroValue272
  t127 := Tryz.underlying187
  a127 := Tryz.isAgg187
  z127 := Tryz.sizeOf187
  v127 := Tryz.zeroValue187
  t146 := Tryz.underlying281
  a146 := Tryz.isAgg281
  z146 := Tryz.sizeOf281
  v146 := Tryz.zeroValue281
  t148 := Tryz.underlying284
  a148 := Tryz.isAgg284
  z148 := Tryz.sizeOf284
  v148 := Tryz.zeroValue284
  t164 := Tryz.underlying227
  a164 := Tryz.isAgg227
  z164 := Tryz.sizeOf227
  v164 := Tryz.zeroValue227 }
theorem lay_Builder_Extra_105 : Builder.Extra Tryz.prog lay_lays105_ren := {
  sizeBuilder := by kernel_rfl
  liesBuilder := by kernel_rfl
  t5 := Tryz.underlying5
  a5 := Tryz.isAgg5
  z5 := Tryz.sizeOf5
  v5 := Tryz.zeroValue5
  infoByte := by kernel_rfl
  cellsByte := by kernel_rfl
  sizeByte := by kernel_rfl
  neB5 := by decide }
open Go.RowKit Go.Lib in
theorem lay_strings_Repeat (s : ByteArray) (c : Nat) (w : World) (hc : c ≤ 9223372036854775807) (hlen : s.size * c ≤ 140737488355328) :
    Calls Tryz.prog 257 #[.string s, .int .i64 c] w fun e w' => e = .returned (.string ⟨(Lib.repeatL s.data.toList c).toArray⟩) ∧ Below w.heap.size w w' := Any.strings_Repeat lay_lays105 lay_Builder_Extra_105 s c w hc hlen
def lay_laysM171_ren : Go.Shelf.Ren := ⟨fun | 171 => 221 | 243 => 248 | 246 => 256 | 283 => 264 | 284 => 265 | 285 => 266 | 286 => 267 | 129 => 274 | 317 => 273 | 318 => 275 | 319 => 276 | 320 => 277 | 337 => 281 | 338 => 282 | n => n, fun | 3 => 3 | 9 => 9 | 2 => 2 | 4 => 4 | 171 => 286 | 0 => 0 | 53 => 283 | 37 => 22 | 5 => 5 | 173 => 289 | 212 => 296 | 51 => 229 | 20 => 20 | 213 => 297 | 46 => 179 | 232 => 301 | 233 => 302 | n => n, fun | 17 => 5 | 18 => 6 | 19 => 7 | n => n⟩
theorem lay_laysM171 : Go.Proofs.LaysM.n171 Tryz.prog lay_laysM171_ren := {
  mixed := by kernel_rfl
  f129 := Tryz.func274.trans (congrArg some (by kernel_rfl))
  f171 := Tryz.func221.trans (congrArg some (by kernel_rfl))
  f243 := Tryz.func248.trans (congrArg some (by kernel_rfl))
  f246 := Tryz.func256.trans (congrArg some (by kernel_rfl))
  f283 := Tryz.func264.trans (congrArg some (by kernel_rfl))
  f284 := Tryz.func265.trans (congrArg some (by kernel_rfl))
  f285 := Tryz.func266.trans (congrArg some (by kernel_rfl))
  f286 := Tryz.func267.trans (congrArg some (by kernel_rfl))
  f317 := Tryz.func273.trans (congrArg some (by kernel_rfl))
  f318 := Tryz.func275.trans (congrArg some (by kernel_rfl))
  f319 := Tryz.func276.trans (congrArg some (by kernel_rfl))
  f320 := Tryz.func277.trans (congrArg some (by kernel_rfl))
  f337 := Tryz.func281.trans (congrArg some (by kernel_rfl))
  f338 := Tryz.func282.trans (congrArg some (by kernel_rfl))
  t0 := Tryz.underlying0
  a0 := Tryz.isAgg0
  z0 := Tryz.sizeOf0
  v0 := Tryz.zeroValue0
  t2 := Tryz.underlying2
  a2 := Tryz.isAgg2
  z2 := Tryz.sizeOf2
  v2 := Tryz.zeroValue2
  t3 := Tryz.underlying3
  a3 := Tryz.isAgg3
  z3 := Tryz.sizeOf3
  v3 := Tryz.zeroValue3
  t4 := Tryz.underlying4
  a4 := Tryz.isAgg4
  z4 := Tryz.sizeOf4
  v4 := Tryz.zeroValue4
  t5 := Tryz.underlying5
  a5 := Tryz.isAgg5
  z5 := Tryz.sizeOf5
  v5 := Tryz.zeroValue5
  t9 := Tryz.underlying9
  a9 := Tryz.isAgg9
  z9 := Tryz.sizeOf9
  v9 := Tryz.zeroValue9
  t20 := Tryz.underlying20
  a20 := Tryz.isAgg20
  z20 := Tryz.sizeOf20
  v20 := Tryz.zeroValue20
  t37 := Tryz.underlying22
  a37 := Tryz.isAgg22
  z37 := Tryz.sizeOf22
  v37 := Tryz.zeroValue22
  t46 := Tryz.underlying179
  a46 := Tryz.isAgg179
  z46 := Tryz.sizeOf179
  v46 := Tryz.zeroValue179
  t51 := Tryz.underlying229
  a51 := Tryz.isAgg229
  z51 := Tryz.sizeOf229
  v51 := Tryz.zeroValue229
  t53 := Tryz.underlying283
  a53 := Tryz.isAgg283
  z53 := Tryz.sizeOf283
  v53 := Tryz.zeroValue283
  t171 := Tryz.underlying286
  a171 := Tryz.isAgg286
  z171 := Tryz.sizeOf286
  v171 := Tryz.zeroValue286
  t173 := Tryz.underlying289
  a173 := Tryz.isAgg289
  z173 := Tryz.sizeOf289
  v173 := Tryz.zeroValue289
  t212 := Tryz.underlying296
  a212 := Tryz.isAgg296
  z212 := Tryz.sizeOf296
  v212 := Tryz.zeroValue296
  t213 := Tryz.underlying297
  a213 := Tryz.isAgg297
  z213 := Tryz.sizeOf297
  t232 := Tryz.underlying301
  a232 := Tryz.isAgg301
  z232 := Tryz.sizeOf301
  v232 := Tryz.zeroValue301
  t233 := Tryz.underlying302
  a233 := Tryz.isAgg302
  z233 := Tryz.sizeOf302
  v233 := Tryz.zeroValue302
  g17 := by kernel_rfl
  g18 := by kernel_rfl
  g19 := by kernel_rfl
  i0 := by kernel_rfl
  i2 := by kernel_rfl
  i3 := by kernel_rfl
  i4 := by kernel_rfl
  i5 := by kernel_rfl
  i9 := by kernel_rfl
  i20 := by kernel_rfl
  i37 := by kernel_rfl
  i46 := by kernel_rfl
  i51 := by kernel_rfl
  i53 := by kernel_rfl
  i171 := by kernel_rfl
  i173 := by kernel_rfl
  i212 := by kernel_rfl
  i232 := by kernel_rfl
  i233 := by kernel_rfl
  m17 := by kernel_rfl
  m18 := by kernel_rfl
  m19 := by kernel_rfl }
open Go.RowKit Go.Sort Go.Lib in
theorem lay_strconv_Itoa (n : Int) (h0 : -9223372036854775808 ≤ n) (h1 : n ≤ 9223372036854775807) (w : World) (htab : Lib.TabIs Tryz.prog w "internal/strconv.uint64pow10" .u64 Lib.pow10Tab) :
    Calls Tryz.prog 221 #[.int .i64 n] w fun e w' => e = .returned (.string ⟨(Lib.itoa n).toArray⟩) ∧ ∃ k os, w' = grow (w.drewN k) os := Any.strconv_Itoa lay_laysM171 n h0 h1 w htab
end Go.Proofs.YtkofjkjcbljkdaaGreatDoor
end

section
namespace Go.Proofs.YtkofjkjcbljkdaaGreatDoor
variable [LaidG]
variable [LaidN 5]
open Go.Shelf Go.RowKit
set_option maxRecDepth 100000
set_option linter.unusedVariables false
theorem ret_str {w : World} {l : List UInt8} (h : l.length ≤ LIM) : RetVs w [.str] [.str l] [.string ⟨l.toArray⟩] [] := by
  have h1 : RetV w .str (.str l) (.string ⟨l.toArray⟩) [] := by
    refine ⟨[[]], ?_, rfl⟩
    first
      | exact .str h .nil
      | (constructor <;> first | exact h | constructor)
  exact .cons h1 .nil
theorem repL (x : UInt8) : ∀ n, Lib.repeatL [x] n = List.replicate n x
  | 0 => rfl
  | n + 1 => by rw [Lib.repeatL, repL x n, List.replicate_succ]; rfl
def c_SRepeat : FSpec := ⟨[(.rd, .str), (.rd, .int .i64)], [.str], true, fun ps => (nth ps 0).S.length = 1 ∧ 0 ≤ (nth ps 1).I ∧ (nth ps 1).I ≤ 64, fun ps => [.str (List.replicate (nth ps 1).I.toNat ((nth ps 0).S.headD 0))], fun _ => []⟩
theorem meets_SRepeat : Meets Tryz.prog 257 c_SRepeat := by
  intro w ps vs fs fl ms hA hnd hdj hpre hgl
  clear hgl
  cases hA with
  | rd h1 hA => cases hA with
  | rd h2 hA =>
  cases hA
  obtain ⟨h1, rfl⟩ := h1
  obtain ⟨h2, rfl⟩ := h2
  cases h1 with | str hl h1 =>
  cases h1
  cases h2 with | int hk h2 =>
  cases h2
  rename_i l k
  obtain ⟨p1, p2, p3⟩ := hpre
  simp only [nth, List.getD_cons_zero, List.getD_cons_succ, PV.S, PV.I] at p1 p2 p3
  obtain ⟨n, rfl⟩ : ∃ n : Nat, k = n := ⟨k.toNat, by omega⟩
  obtain ⟨x, rfl⟩ : ∃ x, l = [x] := by
    match l, p1 with
    | [x], _ => exact ⟨x, rfl⟩
  refine (lay_strings_Repeat ⟨[x].toArray⟩ n w (by omega) (by show [x].toArray.size * n ≤ _; simp; omega)).mono ?_
  rintro e w' ⟨rfl, hB⟩
  refine ⟨[.string ⟨(List.replicate n x).toArray⟩], ?_, ?_, .inl ⟨rfl, [], [], ?_, .rd (.rd .nil), by simp, fun x hx => by simp at hx⟩⟩
  · show Ending.returned (.string ⟨(Lib.repeatL [x] n).toArray⟩) = _
    rw [repL]; rfl
  · exact ⟨hB.os, hB.tape, hB.output, hB.size, fun k hk _ => hB.block k hk⟩
  · show RetVs w' [.str] [.str (List.replicate ((n : Int).toNat) (List.headD [x] 0))] _ _
    rw [Int.toNat_natCast]
    exact ret_str (by simp [LIM]; omega)
theorem k_SRepeat : FnOk Tryz.prog 257 c_SRepeat := ⟨meets_SRepeat, _, Tryz.func257, rfl, by decide⟩
def decS (n : Int) : List UInt8 := Lib.itoa n
theorem decS_len {n : Int} (h : -1 ≤ n) (h2 : n < 1000) : (decS n).length ≤ 3 := by
  have : ∀ k : Fin 1001, (decS ((k.val : Int) - 1)).length ≤ 3 := by decide +kernel
  have := this ⟨(n + 1).toNat, by omega⟩
  rwa [show (((n + 1).toNat : Nat) : Int) - 1 = n by omega] at this
theorem lv_u64 {w : World} : ∀ {zs : List Int} {cs : List Value}, Lv w (flatT (.int .u64) zs.length) (flatP (zs.map (PV.int .u64))) cs [] → cs = zs.map fun z => Value.int .u64 z
  | [], cs, h => by
    cases h; rfl
  | z :: zs, cs, h => by
    have h' : Lv w (.int .u64 :: flatT (.int .u64) zs.length) (.int .u64 z :: flatP (zs.map (PV.int .u64))) cs [] := h
    cases h' with | int _ h2 => rw [lv_u64 h2]; rfl
theorem tab_is {w : World} {X : List Nat} (h : GlOk w X) : Lib.TabIs Tryz.prog w "internal/strconv.uint64pow10" .u64 Lib.pow10Tab := by
  obtain ⟨_, c, t, hc, _, _, hL⟩ := h.dat 5 (.int .u64) G5 rfl (by simp)
  have e : Tryz.prog.globalNamed "internal/strconv.uint64pow10" = some 5 := by kernel_rfl
  have hL' : Lv w (flatT (.int .u64) Lib.pow10Tab.length) (flatP (Lib.pow10Tab.map (PV.int .u64))) c.toList [] := hL
  have h3 := lv_u64 hL'
  unfold Lib.TabIs World.var?
  rw [e]
  show (match w.heap[5]? with | some (.cells cs _ _) => some cs | _ => none) = _
  rw [hc]
  show some c = _
  rw [← h3]
def c_Itoa : FSpec := ⟨[(.rd, .int .i64)], [.str], true, fun ps => -1 ≤ (nth ps 0).I ∧ (nth ps 0).I < 1000, fun ps => [.str (decS (nth ps 0).I)], fun _ => []⟩
theorem meets_Itoa : Meets Tryz.prog 221 c_Itoa := by
  intro w ps vs fs fl ms hA hnd hdj hpre hgl
  cases hA with
  | rd h1 hA =>
  cases hA
  obtain ⟨h1, rfl⟩ := h1
  cases h1 with | int hk h1 =>
  cases h1
  rename_i n
  obtain ⟨p1, p2⟩ := hpre
  simp only [nth, List.getD_cons_zero, PV.I] at p1 p2
  refine (lay_strconv_Itoa n (by omega) (by omega) w (tab_is hgl)).mono ?_
  rintro e w' ⟨rfl, k, os, rfl⟩
  refine ⟨[.string ⟨(decS n).toArray⟩], rfl, ?_, .inl ⟨rfl, [], [], ret_str (l := decS n) (Nat.le_trans (decS_len p1 p2) (by decide)), .rd .nil, by simp, fun x hx => by simp at hx⟩⟩
  refine ⟨rfl, rfl, rfl, ?_, fun j hj _ => ?_⟩
  · show w.heap.size ≤ (w.heap ++ os).size
    simp
  · show (w.heap ++ os)[j]? = w.heap[j]?
    rw [Array.getElem?_append_left hj]
theorem k_Itoa : FnOk Tryz.prog 221 c_Itoa := ⟨meets_Itoa, _, Tryz.func221, rfl, by decide⟩
end Go.Proofs.YtkofjkjcbljkdaaGreatDoor
end

section
namespace Go.Proofs.YtkofjkjcbljkdaaGreatDoor
variable [LaidG]
variable [LaidN 3] [LaidN 4]
variable [LaidN 5]
set_option maxRecDepth 100000
set_option linter.unusedSimpArgs false
def padB (s : List UInt8) : List UInt8 := s ++ ([128] ++ (List.replicate ((119 - s.length % 64) % 64) 0 ++ nB (8 * (s.length : Int)) 8))
def padN (n : Nat) : Nat := (n + 72) / 64
theorem padB_len (s : List UInt8) : (padB s).length = 64 * padN s.length := by
  simp only [padB, List.length_append, List.length_replicate, nB_len, List.length_cons, List.length_nil, padN]
  omega
def blkB (P : List UInt8) (i : Nat) : List UInt8 := (P.drop (64 * i)).take 64
def shaI (P : List UInt8) : Nat → List PV
  | 0 => G3
  | i + 1 => blkP G4 (shaI P i) (byteF (blkB P i))
theorem shaI_len (P : List UInt8) : ∀ i, (shaI P i).length = 8
  | 0 => rfl
  | i + 1 => blkP_len _ _ _
def U32s (l : List PV) : Prop := ∀ e ∈ l, ∃ n, e = PV.int .u32 n ∧ inR .u32 n
theorem addP_ty (v r : List PV) : ∀ n, U32s (addP v r n)
  | 0 => fun e he => by simp [addP] at he
  | n + 1 => fun e he => by
    rw [addP] at he
    rcases List.mem_append.1 he with h | h
    · exact addP_ty v r n e h
    · rw [List.mem_singleton] at h
      exact ⟨_, h, inR_wrap _ _⟩
theorem shaI_ty (P : List UInt8) : ∀ i, U32s (shaI P i)
  | 0 => fun e he => by
    obtain ⟨n, hn, rfl⟩ := List.mem_map.1 he
    refine ⟨n, rfl, ?_⟩
    have : ∀ n ∈ ([1779033703, 3144134277, 1013904242, 2773480762, 1359893119, 2600822924, 528734635, 1541459225] : List Int), 0 ≤ n ∧ n < 4294967296 := by decide
    have h := this n hn
    simp [inR, IntKind.min, IntKind.max, IntKind.signed, IntKind.bits]
    omega
  | i + 1 => addP_ty _ _ _
theorem shaI_at {P : List UInt8} {i j : Nat} (h : j < 8) : 0 ≤ (nth (shaI P i) j).I ∧ (nth (shaI P i) j).I < 4294967296 := by
  obtain ⟨n, e, h⟩ := shaI_ty P i _ (nth_mem (by rw [shaI_len]; exact h))
  rw [e, pv_I]
  simp [inR, IntKind.min, IntKind.max, IntKind.signed, IntKind.bits] at h
  omega
def outB (st : List PV) : List UInt8 := st.flatMap fun e => nB e.I 4
theorem outB_take {st : List PV} {i : Nat} (h : i < st.length) : outB (st.take (i + 1)) = outB (st.take i) ++ nB (nth st i).I 4 := by
  rw [take_nth h]; simp [outB]
theorem outB_len (st : List PV) : (outB st).length = 4 * st.length := by
  induction st with
  | nil => rfl
  | cons e st ih => simp only [outB, List.flatMap_cons, List.length_append, nB_len, List.length_cons] at ih ⊢; omega
def shaL (s : List UInt8) : List UInt8 := outB (shaI (padB s) (padN s.length))
theorem shaL_len (s : List UInt8) : (shaL s).length = 32 := by rw [shaL, outB_len, shaI_len]
theorem shr32 {n : Int} {k : Nat} (h : 0 ≤ n) (hk : k ≤ 31) : shrI .u32 n (k : Nat) = n / 2 ^ k := by
  unfold shrI
  have e : min ((k : Int).toNat) IntKind.u32.bits = k := by
    have : IntKind.u32.bits = 32 := rfl
    rw [this, Int.toNat_natCast]; omega
  rw [e, Int.fdiv_eq_ediv_of_nonneg _ (Int.pow_nonneg (by omega))]
theorem shrs {n : Int} (h : 0 ≤ n) : shrI .u32 n 24 = n / 256 ^ 3 ∧ shrI .u32 n 16 = n / 256 ^ 2 ∧ shrI .u32 n 8 = n / 256 := by
  have h1 := shr32 (k := 24) h (by omega)
  have h2 := shr32 (k := 16) h (by omega)
  have h3 := shr32 (k := 8) h (by omega)
  exact ⟨by simpa using h1, by simpa using h2, by simpa using h3⟩
theorem nB4 (n : Int) : nB n 4 = [byteOf (n / 256 ^ 3), byteOf (n / 256 ^ 2), byteOf (n / 256), byteOf n] := by
  simp [nB, List.range_succ]
theorem bytesPV_pv : ∀ {s : List PV}, (∀ e ∈ s, ∃ n, e = PV.int IntKind.u8 n ∧ inR .u8 n) → bytesPV (pvBytes s) = s
  | [], _ => rfl
  | e :: s, h => by
    obtain ⟨n, rfl, hn⟩ := h e (by simp)
    have h2 := bytesPV_pv (s := s) fun x hx => h x (by simp [hx])
    simp [inR, IntKind.min, IntKind.max, IntKind.signed, IntKind.bits] at hn
    simp only [bytesPV, pvBytes, List.map_cons, List.map_map, pv_I] at h2 ⊢
    rw [h2, UInt8.toNat_ofNat', Nat.mod_eq_of_lt (by omega)]
    congr 2
    omega
theorem padZ {n : Nat} (h : n ≤ 1000000000) : (IntKind.i64.wrap (119 - (n : Int).tmod 64)).tmod 64 = (((119 - n % 64) % 64 : Nat) : Int) := by
  have e : (n : Int).tmod 64 = n % 64 := Int.tmod_eq_emod_of_nonneg (by omega)
  rw [e, wrap64 (by omega), Int.tmod_eq_emod_of_nonneg (by omega)]
  omega
theorem byteP_bytes (b : List UInt8) : byteP (bytesPV b) = byteF b := by
  funext k
  simp only [byteP, byteF, nth, bytesPV, List.getElem?_map, List.getD_eq_getElem?_getD]
  cases b[k]? <;> rfl
def c_hash : FSpec := ⟨[(.rd, .str)], [.str], true, fun ps => (nth ps 0).S.length ≤ 1000000000, fun ps => [.str (shaL (nth ps 0).S)], fun _ => []⟩
theorem k_hash : FnOk Tryz.prog 249 c_hash := by
  refine fn_mk [0, 2, 3, 4, 5, 6, 8, 32, 33] [.tmp 2] (env_cons (cs := []) k_hashBlock (env_cons (cs := []) k_bigBytes (env_cons (cs := []) k_SRepeat (env_nil (tyTab_ok []))))) mixed Tryz.func249 rfl (by decide) rfl (by decide) rfl ?_
  intro ps hT hpre W hW
  simp only [c_hash, TyA, Ty, Tys] at hT hpre
  obtain ⟨_, _, rfl, ⟨s, rfl, hs⟩, rfl⟩ := hT
  simp only [nth_zero, pv_S] at hpre
  refine hW.vc [] _ _ ?_
  simp [-List.getD_eq_getElem?_getD, c_hash, c_SRepeat, c_bigBytes, c_hashBlock]
  rw [padZ hpre, wrap64 (n := 8 * (s.length : Int)) (by omega)]
  simp only [Int.toNat_natCast]
  refine ⟨rfl, fun _ => ⟨by omega, ⟨by omega, by omega⟩, by omega, fun _ => ⟨by omega, by rw [nB_len]; omega, ?_⟩⟩⟩
  have e : s ++ 128 :: (List.replicate ((119 - s.length % 64) % 64) 0 ++ nB (8 * (s.length : Int)) 8) = padB s := rfl
  rw [e]
  obtain ⟨P, hP⟩ : ∃ P, P = padB s := ⟨_, rfl⟩
  rw [← hP]
  have hl : P.length = 64 * padN s.length := by rw [hP, padB_len]
  obtain ⟨m, hm⟩ : ∃ m, m = padN s.length := ⟨_, rfl⟩
  rw [← hm] at hl
  refine hW.cutS [_, _] _ _ [.ax 3, .sl 5 .dp .str] (fun ys => ys = [.list (shaI P m), .str []]) ?_ ?_
  · refine hW.loopS _ _ _ [.ax 3, .sl 5 .dp .str] (fun ys => ∃ i : Nat, ys = [.list (shaI P i), .str (P.drop (64 * i))] ∧ i ≤ m) (fun ys => (nth ys 1).S.length) ?_ ?_
    · simp [-List.getD_eq_getElem?_getD, c_hash, c_SRepeat, c_bigBytes, c_hashBlock]
      exact ⟨0, ⟨rfl, rfl⟩, by omega⟩
    · rintro ys ⟨i, rfl, h1⟩
      refine hW.vc [] _ _ ?_
      simp [-List.getD_eq_getElem?_getD, c_hash, c_SRepeat, c_bigBytes, c_hashBlock]
      have h2 := shaI_len P i
      refine ⟨fun h => ⟨by omega, ⟨h2, by omega⟩, by omega, ⟨i + 1, ⟨rfl, ?_⟩, by omega⟩, by omega⟩, fun h => ?_⟩
      · rw [List.take_of_length_le (by rw [List.length_drop]; omega)]; rfl
      · have : i = m := by omega
        subst this
        exact ⟨rfl, by omega⟩
  · rintro ys rfl
    refine hW.vc [] _ _ ?_
    simp [-List.getD_eq_getElem?_getD, c_hash, c_SRepeat, c_bigBytes, c_hashBlock]
    rw [shaI_len]
    refine ⟨rfl, ?_⟩
    refine hW.loopS _ _ _ [.sl 6 .dp .str, .sl 33 .dp (.int .i64)] (fun ys => ∃ i : Nat, ys = [.str (outB ((shaI P m).take i)), .int .i64 i] ∧ i ≤ 8) (fun ys => 8 - (nth ys 1).I.toNat) ?_ ?_
    · simp [-List.getD_eq_getElem?_getD, c_hash, c_SRepeat, c_bigBytes, c_hashBlock]
      exact ⟨0, ⟨rfl, rfl⟩, by omega⟩
    · rintro ys ⟨i, rfl, h1⟩
      refine hW.vc [] _ _ ?_
      simp [-List.getD_eq_getElem?_getD, c_hash, c_SRepeat, c_bigBytes, c_hashBlock]
      have h2 := shaI_len P m
      refine ⟨fun h => ?_, fun h => ?_⟩
      · have e : [(nth (shaI P m) 0).I, (nth (shaI P m) 1).I, (nth (shaI P m) 2).I, (nth (shaI P m) 3).I, (nth (shaI P m) 4).I, (nth (shaI P m) 5).I, (nth (shaI P m) 6).I, (nth (shaI P m) 7).I].getD i 0 = (nth (shaI P m) i).I := by
          have h3 := pv_getD (s8Of (shaI P m)) (i := i) (by omega)
          rw [pv_s8 h2 (shaI_ty P m)] at h3
          exact h3
        have h4 := shaI_at (P := P) (i := m) (j := i) (by omega)
        rw [e, wrap64 (n := (nth (shaI P m) i).I) (by omega), wrap64 (n := (i : Int) + 1) (by omega), outB_len, nB_len, List.length_take]
        exact ⟨h, h4.1, by omega, ⟨i + 1, ⟨(outB_take (by omega)).symm, by omega⟩, by omega⟩, by omega⟩
      · rw [List.take_of_length_le (by omega), shaL, ← hP, ← hm]
def c_l01Hash : FSpec := ⟨[(.rd, .list (.int .u8))], [.str], true, fun ps => (nth ps 0).L.length ≤ 1000000000, fun ps => [.str (shaL (pvBytes (nth ps 0).L))], fun _ => []⟩
theorem k_l01Hash : FnOk Tryz.prog 228 c_l01Hash := by
  refine fn_mk [0, 2, 3, 4, 5, 6, 7, 8, 9] [.tmp 2] (env_cons (cs := []) k_l01Block (env_cons (cs := []) k_l01Consts (env_nil (tyTab_ok [])))) mixed Tryz.func228 rfl (by decide) rfl (by decide) rfl ?_
  intro ps hT hpre W hW
  simp only [c_l01Hash, TyA, Ty, Tys] at hT hpre
  obtain ⟨_, _, rfl, ⟨s, rfl, hs, ts⟩, rfl⟩ := hT
  simp only [nth_zero, pv_L] at hpre
  obtain ⟨b, hb⟩ : ∃ b, b = pvBytes s := ⟨_, rfl⟩
  have hbs : s = bytesPV b := by rw [hb, bytesPV_pv ts]
  subst hbs
  rw [bytesPV_len] at hpre
  refine hW.vc [(18, [25], .take 0 <| .take 1 <| .take 2 <| .take 3 <| .take 4 <| .take 5 <| .take 6 <| .take 7 <| .take 8 <| .take 9 <| .take 10 <| .take 11 <| .take 12 <| .take 13 <| .take 14 <| .take 15 <| .take 16 <| .take 17 <| .take 18 <| .take 19 <| .take 20 <| .take 21 <| .take 22 <| .take 23 <| .alt 24 (.alt 25 (.alt 26 (.done) .stop) .stop) .stop)] _ _ ?_
  simp [-List.getD_eq_getElem?_getD, c_l01Hash, c_l01Consts, c_l01Block]
  rw [bytesPV_len]
  refine ⟨by decide, by omega, by omega, fun _ => ?_⟩
  refine hW.cutS [_, _] _ _ [.sl 4 .dp (.list (.int .u8))] (fun ys => ys = [.list (bytesPV (b ++ ([128] ++ List.replicate ((119 - b.length % 64) % 64) 0)))]) ?_ ?_
  · refine hW.loopS _ _ _ [.sl 4 .dp (.list (.int .u8))] (fun ys => ∃ i : Nat, ys = [.list (bytesPV (b ++ ([128] ++ List.replicate i 0)))] ∧ i ≤ (119 - b.length % 64) % 64) (fun ys => b.length + 1 + 64 - (nth ys 0).L.length) ?_ ?_
    · simp [-List.getD_eq_getElem?_getD, c_l01Hash, c_l01Consts, c_l01Block]
      exact ⟨0, by rw [bytesPV_app]; rfl, by omega⟩
    · rintro ys ⟨i, rfl, h1⟩
      refine hW.vc [(18, [25], .take 0 <| .take 1 <| .take 2 <| .take 3 <| .take 4 <| .take 5 <| .take 6 <| .take 7 <| .take 8 <| .take 9 <| .take 10 <| .take 11 <| .take 12 <| .take 13 <| .take 14 <| .take 15 <| .take 16 <| .take 17 <| .take 18 <| .take 19 <| .take 20 <| .take 21 <| .take 22 <| .take 23 <| .alt 24 (.alt 25 (.alt 26 (.done) .stop) .stop) .stop)] _ _ ?_
      simp [-List.getD_eq_getElem?_getD, c_l01Hash, c_l01Consts, c_l01Block]
      have hlen : (bytesPV (b ++ 128 :: List.replicate i 0)).length = b.length + 1 + i := by
        rw [bytesPV_len]; simp; omega
      rw [hlen, Int.tmod_eq_emod_of_nonneg (by omega)]
      refine fun _ => ⟨fun h2 => ⟨by omega, fun _ => ⟨⟨i + 1, ?_, by omega⟩, by omega⟩⟩, fun h2 => ?_⟩
      · rw [List.replicate_succ', ← List.cons_append, ← List.append_assoc, bytesPV_app (_ ++ _)]; rfl
      · have : i = (119 - b.length % 64) % 64 := by omega
        rw [← this]
  · rintro ys rfl
    refine hW.vc [(18, [25], .take 0 <| .take 1 <| .take 2 <| .take 3 <| .take 4 <| .take 5 <| .take 6 <| .take 7 <| .take 8 <| .take 9 <| .take 10 <| .take 11 <| .take 12 <| .take 13 <| .take 14 <| .take 15 <| .take 16 <| .take 17 <| .take 18 <| .take 19 <| .take 20 <| .take 21 <| .take 22 <| .take 23 <| .alt 24 (.alt 25 (.alt 26 (.done) .stop) .stop) .stop)] _ _ ?_
    simp [-List.getD_eq_getElem?_getD, c_l01Hash, c_l01Consts, c_l01Block]
    obtain ⟨Q, hQ⟩ : ∃ Q, Q = b ++ 128 :: List.replicate ((119 - b.length % 64) % 64) 0 := ⟨_, rfl⟩
    rw [← hQ]
    have hP : padB b = Q ++ nB (8 * (b.length : Int)) 8 := by rw [hQ, padB]; simp
    have hl := padB_len b
    have hQl : Q.length + 8 = 64 * padN b.length := by rw [← hl, hP]; simp [nB_len]
    refine hW.cutS [_, _] _ _ [.sl 4 .dp (.list (.int .u8)), .sl 5 .dp (.int .i64)] (fun ys => ys = [.list (bytesPV (padB b)), .int .i64 (-1)]) ?_ ?_
    · refine hW.loopS _ _ _ [.sl 4 .dp (.list (.int .u8)), .sl 5 .dp (.int .i64)] (fun ys => ∃ j : Nat, ys = [.list (bytesPV (Q ++ (nB (8 * (b.length : Int)) 8).take (8 - j))), .int .i64 (j - 1)] ∧ j ≤ 8) (fun ys => ((nth ys 1).I + 1).toNat) ?_ ?_
      · simp [-List.getD_eq_getElem?_getD, c_l01Hash, c_l01Consts, c_l01Block]
        exact ⟨8, ⟨by simp, by omega⟩, by omega⟩
      · rintro ys ⟨j, rfl, h1⟩
        refine hW.vc [(18, [25], .take 0 <| .take 1 <| .take 2 <| .take 3 <| .take 4 <| .take 5 <| .take 6 <| .take 7 <| .take 8 <| .take 9 <| .take 10 <| .take 11 <| .take 12 <| .take 13 <| .take 14 <| .take 15 <| .take 16 <| .take 17 <| .take 18 <| .take 19 <| .take 20 <| .take 21 <| .take 22 <| .take 23 <| .alt 24 (.alt 25 (.alt 26 (.done) .stop) .stop) .stop)] _ _ ?_
        simp [-List.getD_eq_getElem?_getD, c_l01Hash, c_l01Consts, c_l01Block]
        refine ⟨fun h2 _ => ?_, fun h2 => ?_⟩
        · have e0 : (8 * ((j : Int) - 1)) = ((8 * (j - 1) : Nat) : Int) := by omega
          have e1 : IntKind.u64.wrap (IntKind.i64.wrap (8 * ((j : Int) - 1))) = ((8 * (j - 1) : Nat) : Int) := by
            rw [wrap64 (by omega), e0]
            simp [IntKind.wrap, IntKind.signed, IntKind.bits]; omega
          rw [e1, bytesPV_len b, wrap64 (n := 8 * (b.length : Int)) (by omega), shr8 (by omega) (by omega), wrap8_byte, wrap64 (n := (j : Int) - 1 - 1) (by omega), bytesPV_len, List.length_append, List.length_take, nB_len]
          have hpn : 64 * padN b.length ≤ 1000000072 := by rw [padN]; omega
          refine ⟨by omega, by omega, fun _ => ⟨⟨j - 1, ⟨?_, by omega⟩, by omega⟩, by omega⟩⟩
          have h4 := nB_take (n := 8 * (b.length : Int)) (show 8 - j < 8 by omega)
          have e2 : 8 - 1 - (8 - j) = j - 1 := by omega
          have e3 : 8 - j + 1 = 8 - (j - 1) := by omega
          rw [e2, e3] at h4
          rw [h4, ← List.append_assoc, bytesPV_app (_ ++ _), bytesPV_one]
        · have : j = 0 := by omega
          subst this
          exact ⟨by rw [hP, List.take_of_length_le (by rw [nB_len]; omega)], by omega⟩
    · rintro ys rfl
      refine hW.vc [(18, [25], .take 0 <| .take 1 <| .take 2 <| .take 3 <| .take 4 <| .take 5 <| .take 6 <| .take 7 <| .take 8 <| .take 9 <| .take 10 <| .take 11 <| .take 12 <| .take 13 <| .take 14 <| .take 15 <| .take 16 <| .take 17 <| .take 18 <| .take 19 <| .take 20 <| .take 21 <| .take 22 <| .take 23 <| .alt 24 (.alt 25 (.alt 26 (.done) .stop) .stop) .stop)] _ _ ?_
      simp [-List.getD_eq_getElem?_getD, c_l01Hash, c_l01Consts, c_l01Block]
      obtain ⟨P, hPP⟩ : ∃ P, P = padB b := ⟨_, rfl⟩
      rw [← hPP] at hl
      obtain ⟨m, hm⟩ : ∃ m, m = padN b.length := ⟨_, rfl⟩
      rw [← hm] at hl
      rw [← hPP]
      refine hW.cutS [_, _] _ _ [.ar 3 (.int .u32), .sl 7 .dp (.int .i64)] (fun ys => ys = [.list (shaI P m), .int .i64 (64 * m)]) ?_ ?_
      · refine hW.loopS _ _ _ [.ar 3 (.int .u32), .sl 7 .dp (.int .i64)] (fun ys => ∃ i : Nat, ys = [.list (shaI P i), .int .i64 (64 * i)] ∧ i ≤ m) (fun ys => (64 * m - (nth ys 1).I.toNat)) ?_ ?_
        · simp [-List.getD_eq_getElem?_getD, c_l01Hash, c_l01Consts, c_l01Block]
          exact ⟨0, ⟨rfl, rfl⟩, by omega⟩
        · rintro ys ⟨i, rfl, h1⟩
          refine hW.vc [(18, [25], .take 0 <| .take 1 <| .take 2 <| .take 3 <| .take 4 <| .take 5 <| .take 6 <| .take 7 <| .take 8 <| .take 9 <| .take 10 <| .take 11 <| .take 12 <| .take 13 <| .take 14 <| .take 15 <| .take 16 <| .take 17 <| .take 18 <| .take 19 <| .take 20 <| .take 21 <| .take 22 <| .take 23 <| .alt 24 (.alt 25 (.alt 26 (.done) .stop) .stop) .stop)] _ _ ?_
          simp [-List.getD_eq_getElem?_getD, c_l01Hash, c_l01Consts, c_l01Block]
          have hmb : 64 * m ≤ 1000000072 := by rw [hm, padN]; omega
          have h2 := shaI_len P i
          rw [bytesPV_len, wrap64 (n := 64 * (i : Int) + 64) (by omega)]
          refine fun _ => ⟨fun h3 => ⟨⟨by omega, by omega, by omega⟩, fun _ => ⟨⟨h2, by omega⟩, ⟨i + 1, ⟨?_, by omega⟩, by omega⟩, by omega⟩⟩, fun h3 => ?_⟩
          · have a1 : (64 * (i : Int) + 64).toNat - (64 * (i : Int)).toNat = 64 := by omega
            have a2 : (64 * (i : Int)).toNat = 64 * i := by omega
            have a3 : List.take 64 (List.drop (64 * i) (bytesPV P)) = bytesPV (blkB P i) := by simp [bytesPV, blkB, List.map_take, List.map_drop]
            rw [a1, a2, a3, byteP_bytes]
            rfl
          · have : i = m := by omega
            subst this
            exact ⟨rfl, rfl⟩
      · rintro ys rfl
        refine hW.vc [(18, [25], .take 0 <| .take 1 <| .take 2 <| .take 3 <| .take 4 <| .take 5 <| .take 6 <| .take 7 <| .take 8 <| .take 9 <| .take 10 <| .take 11 <| .take 12 <| .take 13 <| .take 14 <| .take 15 <| .take 16 <| .take 17 <| .take 18 <| .take 19 <| .take 20 <| .take 21 <| .take 22 <| .take 23 <| .alt 24 (.alt 25 (.alt 26 (.done) .stop) .stop) .stop)] _ _ ?_
        simp [-List.getD_eq_getElem?_getD, c_l01Hash, c_l01Consts, c_l01Block]
        refine hW.loopS _ _ _ [.sl 8 .dp (.list (.int .u8)), .sl 9 .dp (.int .i64)] (fun ys => ∃ i : Nat, ys = [.list (bytesPV (outB ((shaI P m).take i))), .int .i64 i] ∧ i ≤ 8) (fun ys => 8 - (nth ys 1).I.toNat) ?_ ?_
        · simp [-List.getD_eq_getElem?_getD, c_l01Hash, c_l01Consts, c_l01Block]
          exact ⟨0, ⟨rfl, rfl⟩, by omega⟩
        · rintro ys ⟨i, rfl, h1⟩
          refine hW.vc [(18, [25], .take 0 <| .take 1 <| .take 2 <| .take 3 <| .take 4 <| .take 5 <| .take 6 <| .take 7 <| .take 8 <| .take 9 <| .take 10 <| .take 11 <| .take 12 <| .take 13 <| .take 14 <| .take 15 <| .take 16 <| .take 17 <| .take 18 <| .take 19 <| .take 20 <| .take 21 <| .take 22 <| .take 23 <| .alt 24 (.alt 25 (.alt 26 (.done) .stop) .stop) .stop)] _ _ ?_
          simp [-List.getD_eq_getElem?_getD, c_l01Hash, c_l01Consts, c_l01Block]
          have h2 := shaI_len P m
          refine ⟨fun h => ?_, fun h => ?_⟩
          · have h4 := shaI_at (P := P) (i := m) (j := i) (by omega)
            rw [wrap64 (n := (i : Int) + 1) (by omega), bytesPV_len, outB_len, List.length_take, (shrs h4.1).1, (shrs h4.1).2.1, (shrs h4.1).2.2, wrap8_byte, wrap8_byte, wrap8_byte, wrap8_byte]
            exact ⟨by decide +kernel, by omega, fun _ => ⟨by omega, fun _ => ⟨by omega, fun _ => ⟨by omega, fun _ => ⟨by decide, by omega, fun _ => ⟨⟨i + 1, ⟨by rw [outB_take (by omega), bytesPV_app, nB4]; rfl, by omega⟩, by omega⟩, by omega⟩⟩⟩⟩⟩⟩
          · rw [List.take_of_length_le (by omega), pvBytes_bytes, pvBytes_bytes, shaL, ← hPP, ← hm]
end Go.Proofs.YtkofjkjcbljkdaaGreatDoor
end

section
namespace Go.Proofs.YtkofjkjcbljkdaaGreatDoor
variable [LaidG]
variable [LaidN 3] [LaidN 4]
variable [LaidN 5]
set_option maxRecDepth 100000
set_option linter.unusedSimpArgs false
def keyB (k : List UInt8) : List UInt8 := if 64 < k.length then shaL k else k
def mskP (k : List UInt8) (m : Int) : Nat → List PV
  | 0 => []
  | i + 1 => mskP k m i ++ [.int .u8 (xorI .u8 (byteF k i) m)]
theorem mskP_len (k : List UInt8) (m : Int) : ∀ i, (mskP k m i).length = i
  | 0 => rfl
  | i + 1 => by rw [mskP, List.length_append, mskP_len k m i]; rfl
def hmacL (key msg : List UInt8) : List UInt8 := shaL (pvBytes (mskP (keyB key) 92 64) ++ shaL (pvBytes (mskP (keyB key) 54 64) ++ msg))
theorem hmacL_len (key msg : List UInt8) : (hmacL key msg).length = 32 := shaL_len _
theorem pvBytes_app (l m : List PV) : pvBytes (l ++ m) = pvBytes l ++ pvBytes m := by simp [pvBytes]
theorem pvBytes_len (l : List PV) : (pvBytes l).length = l.length := by simp [pvBytes]
theorem byteF_in {k : List UInt8} {i : Nat} (h : ¬ i < k.length) : byteF k i = 0 := by
  simp [byteF, List.getD_eq_getElem?_getD, List.getElem?_eq_none (by omega : k.length ≤ i)]
theorem msk_step {k : List UInt8} {m x : Int} {i : Nat} (h : i < 64) (hx : x = byteF k i) : (mskP k m i ++ List.replicate (64 - i) (PV.int IntKind.u8 0)).set i (PV.int .u8 (xorI .u8 x m)) = mskP k m (i + 1) ++ List.replicate (64 - (i + 1)) (PV.int IntKind.u8 0) := by
  subst hx
  rw [set_at (mskP_len k m i) h]; rfl
def c_hmac : FSpec := ⟨[(.rd, .str), (.rd, .str)], [.str], true, fun ps => (nth ps 0).S.length ≤ 1000000 ∧ (nth ps 1).S.length ≤ 1000000, fun ps => [.str (hmacL (nth ps 0).S (nth ps 1).S)], fun _ => []⟩
theorem k_hmac : FnOk Tryz.prog 223 c_hmac := by
  refine fn_mk [0, 1, 4, 5, 6, 7, 8, 16] [.tmp 4] (env_cons (cs := []) k_hash (env_nil (tyTab_ok []))) mixed Tryz.func223 rfl (by decide) rfl (by decide) rfl ?_
  intro ps hT hpre W hW
  simp only [c_hmac, TyA, Ty, Tys] at hT hpre
  obtain ⟨_, _, rfl, ⟨key, rfl, hkey⟩, _, _, rfl, ⟨msg, rfl, hmsg⟩, rfl⟩ := hT
  simp only [nth_zero, nth_succ, pv_S] at hpre
  obtain ⟨p1, p2⟩ := hpre
  refine hW.vc [(3, [], .alt 0 (.alt 1 (.alt 2 (.alt 3 (.done) .stop) .stop) (.alt 2 (.alt 1 (.alt 3 (.done) .stop) .stop) .stop)) (.alt 1 (.alt 0 (.alt 2 (.alt 3 (.done) .stop) .stop) .stop) .stop)), (12, [], .take 0 <| .take 1 <| .take 2 <| .take 3 <| .take 4 <| .take 5 <| .alt 6 (.take 7 <| .alt 8 (.alt 9 (.done) .stop) .stop) .stop)] _ _ ?_
  simp [-List.reduceReplicate, -List.getD_eq_getElem?_getD, c_hmac, c_hash]
  obtain ⟨k, hk0⟩ : ∃ k, k = keyB key := ⟨_, rfl⟩
  refine fun _ => ⟨fun hk => ⟨by omega, by decide +kernel, ?_⟩, fun hk => ⟨by decide +kernel, ?_⟩⟩
  · rw [show shaL key = k by rw [hk0, keyB, if_pos (by omega)]]
    refine ⟨?_, ?_⟩
    all_goals
      refine hW.loopS _ _ _ [.ar 5 (.int .u8), .ar 6 (.int .u8), .sl 16 .dp (.int .i64)] (fun ys => ∃ i : Nat, ys = [.list (mskP k 54 i ++ List.replicate (64 - i) (.int .u8 0)), .list (mskP k 92 i ++ List.replicate (64 - i) (.int .u8 0)), .int .i64 i] ∧ i ≤ 64) (fun ys => 64 - (nth ys 2).I.toNat) ?_ ?_
      · simp [-List.reduceReplicate, -List.getD_eq_getElem?_getD, c_hmac, c_hash]
        exact ⟨0, ⟨rfl, rfl, rfl⟩, by omega⟩
      · rintro ys ⟨i, rfl, h1⟩
        refine hW.vc [(3, [], .alt 0 (.alt 1 (.alt 2 (.alt 3 (.done) .stop) .stop) (.alt 2 (.alt 1 (.alt 3 (.done) .stop) .stop) .stop)) (.alt 1 (.alt 0 (.alt 2 (.alt 3 (.done) .stop) .stop) .stop) .stop)), (12, [], .take 0 <| .take 1 <| .take 2 <| .take 3 <| .take 4 <| .take 5 <| .alt 6 (.take 7 <| .alt 8 (.alt 9 (.done) .stop) .stop) .stop)] _ _ ?_
        simp [-List.reduceReplicate, -List.getD_eq_getElem?_getD, c_hmac, c_hash]
        have hk1 := mskP_len k 54 i
        have hk2 := mskP_len k 92 i
        have l1 : (pvBytes (mskP k 54 64)).length = 64 := by rw [pvBytes_len, mskP_len]
        have l2 : (pvBytes (mskP k 92 64)).length = 64 := by rw [pvBytes_len, mskP_len]
        rw [wrap64 (n := (i : Int) + 1) (by omega), hk1, hk2]
        refine ⟨fun h2 _ => ⟨fun h3 => ⟨h3, by omega, by omega, by omega, by omega, ⟨i + 1, ⟨msk_step (by omega) rfl, msk_step (by omega) rfl, by omega⟩, by omega⟩, by omega⟩, fun h3 => ⟨by omega, by omega, by omega, by omega, ⟨i + 1, ⟨msk_step (by omega) (byteF_in (by omega)).symm, msk_step (by omega) (byteF_in (by omega)).symm, by omega⟩, by omega⟩, by omega⟩⟩, fun h2 => ?_⟩
        have : i = 64 := by omega
        subst this
        rw [Nat.sub_self, List.replicate_zero, List.append_nil, List.append_nil]
        refine ⟨by decide +kernel, by omega, by omega, by rw [shaL_len]; omega, by rw [shaL_len]; omega, ?_⟩
        rw [hmacL, ← hk0]
  · rw [show key = k by rw [hk0, keyB, if_neg (by omega)]]
    refine ⟨?_, ?_⟩
    all_goals
      refine hW.loopS _ _ _ [.ar 5 (.int .u8), .ar 6 (.int .u8), .sl 16 .dp (.int .i64)] (fun ys => ∃ i : Nat, ys = [.list (mskP k 54 i ++ List.replicate (64 - i) (.int .u8 0)), .list (mskP k 92 i ++ List.replicate (64 - i) (.int .u8 0)), .int .i64 i] ∧ i ≤ 64) (fun ys => 64 - (nth ys 2).I.toNat) ?_ ?_
      · simp [-List.reduceReplicate, -List.getD_eq_getElem?_getD, c_hmac, c_hash]
        exact ⟨0, ⟨rfl, rfl, rfl⟩, by omega⟩
      · rintro ys ⟨i, rfl, h1⟩
        refine hW.vc [(3, [], .alt 0 (.alt 1 (.alt 2 (.alt 3 (.done) .stop) .stop) (.alt 2 (.alt 1 (.alt 3 (.done) .stop) .stop) .stop)) (.alt 1 (.alt 0 (.alt 2 (.alt 3 (.done) .stop) .stop) .stop) .stop)), (12, [], .take 0 <| .take 1 <| .take 2 <| .take 3 <| .take 4 <| .take 5 <| .alt 6 (.take 7 <| .alt 8 (.alt 9 (.done) .stop) .stop) .stop)] _ _ ?_
        simp [-List.reduceReplicate, -List.getD_eq_getElem?_getD, c_hmac, c_hash]
        have hk1 := mskP_len k 54 i
        have hk2 := mskP_len k 92 i
        have l1 : (pvBytes (mskP k 54 64)).length = 64 := by rw [pvBytes_len, mskP_len]
        have l2 : (pvBytes (mskP k 92 64)).length = 64 := by rw [pvBytes_len, mskP_len]
        rw [wrap64 (n := (i : Int) + 1) (by omega), hk1, hk2]
        refine ⟨fun h2 _ => ⟨fun h3 => ⟨h3, by omega, by omega, by omega, by omega, ⟨i + 1, ⟨msk_step (by omega) rfl, msk_step (by omega) rfl, by omega⟩, by omega⟩, by omega⟩, fun h3 => ⟨by omega, by omega, by omega, by omega, ⟨i + 1, ⟨msk_step (by omega) (byteF_in (by omega)).symm, msk_step (by omega) (byteF_in (by omega)).symm, by omega⟩, by omega⟩, by omega⟩⟩, fun h2 => ?_⟩
        have : i = 64 := by omega
        subst this
        rw [Nat.sub_self, List.replicate_zero, List.append_nil, List.append_nil]
        refine ⟨by decide +kernel, by omega, by omega, by rw [shaL_len]; omega, by rw [shaL_len]; omega, ?_⟩
        rw [hmacL, ← hk0]
def c_l02Hmac : FSpec := c_hmac
theorem k_l02Hmac : FnOk Tryz.prog 193 c_l02Hmac := by
  refine fn_mk [0, 1, 4, 5, 6, 7, 8] [.tmp 4] (env_cons (cs := []) k_l01Hash (env_nil (tyTab_ok []))) mixed Tryz.func193 rfl (by decide) rfl (by decide) rfl ?_
  intro ps hT hpre W hW
  simp only [c_l02Hmac, TyA, Ty, Tys] at hT hpre
  simp only [c_hmac, TyA, Ty, Tys] at hT hpre
  obtain ⟨_, _, rfl, ⟨key, rfl, hkey⟩, _, _, rfl, ⟨msg, rfl, hmsg⟩, rfl⟩ := hT
  simp only [nth_zero, nth_succ, pv_S] at hpre
  obtain ⟨p1, p2⟩ := hpre
  refine hW.vc [] _ _ ?_
  simp [-List.reduceReplicate, -List.getD_eq_getElem?_getD, c_l02Hmac, c_l01Hash, c_hmac]
  obtain ⟨k, hk0⟩ : ∃ k, k = keyB key := ⟨_, rfl⟩
  rw [bytesPV_len, pvBytes_bytes]
  refine fun _ => ⟨fun hk => ⟨by omega, ?_⟩, fun hk => ?_⟩
  · rw [show shaL key = k by rw [hk0, keyB, if_pos (by omega)]]
    · refine hW.loopS _ _ _ [.ar 5 (.int .u8), .ar 6 (.int .u8), .sl 7 .dp (.int .i64)] (fun ys => ∃ i : Nat, ys = [.list (mskP k 54 i ++ List.replicate (64 - i) (.int .u8 0)), .list (mskP k 92 i ++ List.replicate (64 - i) (.int .u8 0)), .int .i64 i] ∧ i ≤ 64) (fun ys => 64 - (nth ys 2).I.toNat) ?_ ?_
      · simp [-List.reduceReplicate, -List.getD_eq_getElem?_getD, c_l02Hmac, c_l01Hash, c_hmac]
        exact ⟨0, ⟨rfl, rfl, rfl⟩, by omega⟩
      · rintro ys ⟨i, rfl, h1⟩
        refine hW.vc [] _ _ ?_
        simp [-List.reduceReplicate, -List.getD_eq_getElem?_getD, c_l02Hmac, c_l01Hash, c_hmac]
        have hk1 := mskP_len k 54 i
        have hk2 := mskP_len k 92 i
        have l1 : (pvBytes (mskP k 54 64)).length = 64 := by rw [pvBytes_len, mskP_len]
        have l2 : (pvBytes (mskP k 92 64)).length = 64 := by rw [pvBytes_len, mskP_len]
        rw [wrap64 (n := (i : Int) + 1) (by omega), hk1, hk2]
        refine ⟨fun h2 _ => ⟨fun h3 => ⟨h3, by omega, by omega, by omega, by omega, ⟨i + 1, ⟨msk_step (by omega) rfl, msk_step (by omega) rfl, by omega⟩, by omega⟩, by omega⟩, fun h3 => ⟨by omega, by omega, by omega, by omega, ⟨i + 1, ⟨msk_step (by omega) (byteF_in (by omega)).symm, msk_step (by omega) (byteF_in (by omega)).symm, by omega⟩, by omega⟩, by omega⟩⟩, fun h2 => ?_⟩
        have : i = 64 := by omega
        subst this
        simp only [Nat.sub_self, List.replicate_zero, List.nil_append, Nat.add_zero, Nat.zero_add, pvBytes_app, pvBytes_bytes, bytesPV_len, shaL_len]
        refine ⟨by omega, fun _ => ⟨by omega, by omega, fun _ => ⟨by omega, ?_⟩⟩⟩
        rw [hmacL, ← hk0]
  · rw [show key = k by rw [hk0, keyB, if_neg (by omega)]]
    · refine hW.loopS _ _ _ [.ar 5 (.int .u8), .ar 6 (.int .u8), .sl 7 .dp (.int .i64)] (fun ys => ∃ i : Nat, ys = [.list (mskP k 54 i ++ List.replicate (64 - i) (.int .u8 0)), .list (mskP k 92 i ++ List.replicate (64 - i) (.int .u8 0)), .int .i64 i] ∧ i ≤ 64) (fun ys => 64 - (nth ys 2).I.toNat) ?_ ?_
      · simp [-List.reduceReplicate, -List.getD_eq_getElem?_getD, c_l02Hmac, c_l01Hash, c_hmac]
        exact ⟨0, ⟨rfl, rfl, rfl⟩, by omega⟩
      · rintro ys ⟨i, rfl, h1⟩
        refine hW.vc [] _ _ ?_
        simp [-List.reduceReplicate, -List.getD_eq_getElem?_getD, c_l02Hmac, c_l01Hash, c_hmac]
        have hk1 := mskP_len k 54 i
        have hk2 := mskP_len k 92 i
        have l1 : (pvBytes (mskP k 54 64)).length = 64 := by rw [pvBytes_len, mskP_len]
        have l2 : (pvBytes (mskP k 92 64)).length = 64 := by rw [pvBytes_len, mskP_len]
        rw [wrap64 (n := (i : Int) + 1) (by omega), hk1, hk2]
        refine ⟨fun h2 _ => ⟨fun h3 => ⟨h3, by omega, by omega, by omega, by omega, ⟨i + 1, ⟨msk_step (by omega) rfl, msk_step (by omega) rfl, by omega⟩, by omega⟩, by omega⟩, fun h3 => ⟨by omega, by omega, by omega, by omega, ⟨i + 1, ⟨msk_step (by omega) (byteF_in (by omega)).symm, msk_step (by omega) (byteF_in (by omega)).symm, by omega⟩, by omega⟩, by omega⟩⟩, fun h2 => ?_⟩
        have : i = 64 := by omega
        subst this
        simp only [Nat.sub_self, List.replicate_zero, List.nil_append, Nat.add_zero, Nat.zero_add, pvBytes_app, pvBytes_bytes, bytesPV_len, shaL_len]
        refine ⟨by omega, fun _ => ⟨by omega, by omega, fun _ => ⟨by omega, ?_⟩⟩⟩
        rw [hmacL, ← hk0]
end Go.Proofs.YtkofjkjcbljkdaaGreatDoor
end

section
namespace Go.Proofs.YtkofjkjcbljkdaaGreatDoor
variable [LaidG]
set_option maxRecDepth 100000
set_option linter.unusedSimpArgs false
def letC (c : Int) : Bool := inB c 97 122 || inB c 65 90 || c == 95
def digC (c : Int) : Bool := inB c 48 57
def namI : Bool → List UInt8 → Bool
  | _, [] => true
  | f, c :: l => (letC c.toNat || (!f && digC c.toNat)) && namI false l
def nameB (t : List UInt8) : Bool := namI true t && inB t.length 1 40
def c_isName : FSpec := ⟨[(.rd, .str)], [.bool], true, fun _ => True, fun ps => [.bool (nameB (nth ps 0).S)], fun _ => []⟩
theorem k_isName : FnOk Tryz.prog 234 c_isName := by
  refine fn_mk [0, 2, 3, 4, 5, 7, 8] [.tmp 2] (env_cons (cs := []) k_within (env_nil (tyTab_ok []))) mixed Tryz.func234 rfl (by decide) rfl (by decide) rfl ?_
  intro ps hT hpre W hW
  simp only [c_isName, TyA, Ty, Tys] at hT hpre
  obtain ⟨_, _, rfl, ⟨t, rfl, ht⟩, rfl⟩ := hT
  refine hW.vc [] _ _ ?_
  simp [-List.getD_eq_getElem?_getD, c_isName, c_within]
  refine fun _ => hW.loopS _ _ _ [.sl 8 .dp (.int .i64)] (fun ys => ∃ i : Nat, ys = [.int .i64 i] ∧ i ≤ t.length ∧ namI true t = namI (i == 0) (t.drop i)) (fun ys => t.length - (nth ys 0).I.toNat) ?_ ?_
  · simp [-List.getD_eq_getElem?_getD, c_isName, c_within]
    exact ⟨0, rfl, by omega, rfl⟩
  · rintro ys ⟨i, rfl, h1, h2⟩
    refine hW.vc [] _ _ ?_
    simp [-List.getD_eq_getElem?_getD, c_isName, c_within]
    refine ⟨fun h3 => ?_, fun h3 _ => ?_⟩
    · have hd : t.drop i = t.getD i 0 :: t.drop (i + 1) := by
        rw [List.drop_eq_getElem_cons h3]; simp [h3]
      rw [hd, namI] at h2
      rw [wrap64 (n := (i : Int) + 1) (by omega)]
      generalize ((t.getD i 0).toNat : Int) = c at *
      refine ⟨h3, by omega, by omega, by omega, fun g1 g2 g3 g4 => ?_, fun g => ⟨⟨i + 1, by omega, by omega, ?_⟩, by omega⟩⟩
      · have hf : (letC c || (!(i == 0) && digC c)) = false := by
          cases hq : (letC c || (!(i == 0) && digC c)) with
          | false => rfl
          | true => simp [letC, digC, inB] at hq; omega
        rw [nameB, h2, hf]; rfl
      · have hf : (letC c || (!(i == 0) && digC c)) = true := by
          cases hq : (letC c || (!(i == 0) && digC c)) with
          | true => rfl
          | false => simp [letC, digC, inB] at hq; omega
        rw [h2, hf]; rfl
    · rw [nameB, h2, List.drop_eq_nil_of_le h3, namI, Bool.true_and]
theorem nameB_a {t : List UInt8} (h : ((t.length : Int) < 1 ∨ 40 < (t.length : Int)) ∨ letC (t.getD 0 0).toNat = false) : nameB t = false := by
  rcases h with h | h
  · have : inB t.length 1 40 = false := by
      cases hq : inB (t.length : Int) 1 40 with
      | false => rfl
      | true => simp [inB] at hq; omega
    rw [nameB, this, Bool.and_false]
  · cases t with
    | nil => simp [nameB, inB]
    | cons c l => simp only [List.getD_cons_zero] at h; simp [nameB, namI, h]
theorem nameB_b {t : List UInt8} (h : 0 < t.length) (h2 : letC (t.getD 0 0).toNat = true) : namI true t = namI false (t.drop 1) := by
  cases t with
  | nil => simp at h
  | cons c l => simp only [List.getD_cons_zero] at h2; simp [namI, h2]
def c_l00Letter : FSpec := ⟨[(.rd, .int .u8)], [.bool], true, fun _ => True, fun ps => [.bool (letC (nth ps 0).I)], fun _ => []⟩
theorem k_l00Letter : FnOk Tryz.prog 226 c_l00Letter := by
  refine fn_mk [0, 2] [.tmp 2] (env_nil (tyTab_ok [])) mixed Tryz.func226 rfl (by decide) rfl (by decide) rfl ?_
  intro ps hT hpre W hW
  simp only [c_l00Letter, TyA, Ty, Tys] at hT hpre
  obtain ⟨_, _, rfl, ⟨c, rfl, hc⟩, rfl⟩ := hT
  refine hW.vc [] _ _ ?_
  simp [-List.getD_eq_getElem?_getD, c_l00Letter]
  exact ⟨by omega, rfl⟩
def c_l00Digit : FSpec := ⟨[(.rd, .int .u8)], [.bool], true, fun _ => True, fun ps => [.bool (digC (nth ps 0).I)], fun _ => []⟩
theorem k_l00Digit : FnOk Tryz.prog 227 c_l00Digit := by
  refine fn_mk [0, 2] [.tmp 2] (env_nil (tyTab_ok [])) mixed Tryz.func227 rfl (by decide) rfl (by decide) rfl ?_
  intro ps hT hpre W hW
  simp only [c_l00Digit, TyA, Ty, Tys] at hT hpre
  obtain ⟨_, _, rfl, ⟨c, rfl, hc⟩, rfl⟩ := hT
  refine hW.vc [] _ _ ?_
  simp [-List.getD_eq_getElem?_getD, c_l00Digit]
  rfl
def c_l00Word : FSpec := c_isName
theorem k_l00Word : FnOk Tryz.prog 190 c_l00Word := by
  refine fn_mk [0, 2, 3] [.tmp 2] (env_cons (cs := []) k_l00Digit (env_cons (cs := []) k_l00Letter (env_nil (tyTab_ok [])))) mixed Tryz.func190 rfl (by decide) rfl (by decide) rfl ?_
  intro ps hT hpre W hW
  simp only [c_l00Word, TyA, Ty, Tys] at hT hpre
  simp only [c_isName, TyA, Ty, Tys] at hT
  obtain ⟨_, _, rfl, ⟨t, rfl, ht⟩, rfl⟩ := hT
  refine hW.vc [] _ _ ?_
  simp [-List.getD_eq_getElem?_getD, c_l00Word, c_l00Letter, c_l00Digit, c_isName]
  refine fun _ _ => ⟨fun _ _ => by omega, fun h => nameB_a h, fun g1 g2 g3 => ?_⟩
  refine hW.loopS _ _ _ [.sl 3 .dp (.int .i64)] (fun ys => ∃ i : Nat, ys = [.int .i64 i] ∧ i ≤ t.length ∧ namI true t = namI false (t.drop i)) (fun ys => t.length - (nth ys 0).I.toNat) ?_ ?_
  · simp [-List.getD_eq_getElem?_getD, c_l00Word, c_l00Letter, c_l00Digit, c_isName]
    exact ⟨1, rfl, by omega, nameB_b (by omega) g3⟩
  · rintro ys ⟨i, rfl, h1, h2⟩
    refine hW.vc [] _ _ ?_
    simp [-List.getD_eq_getElem?_getD, c_l00Word, c_l00Letter, c_l00Digit, c_isName]
    refine fun _ => ⟨fun h3 => ?_, fun h3 => ?_⟩
    · have hd : t.drop i = t.getD i 0 :: t.drop (i + 1) := by
        rw [List.drop_eq_getElem_cons h3]; simp [h3]
      rw [hd, namI] at h2
      rw [wrap64 (n := (i : Int) + 1) (by omega)]
      refine ⟨h3, fun h => ⟨h, h3⟩, fun k1 k2 => ?_, fun k => ⟨⟨i + 1, by omega, by omega, ?_⟩, by omega⟩⟩
      · rw [nameB, h2, k1, k2]; rfl
      · have hf : (letC (t.getD i 0).toNat || (!false && digC (t.getD i 0).toNat)) = true := by
          cases hq : letC (t.getD i 0).toNat with
          | true => rfl
          | false => rw [k hq]; rfl
        rw [h2, hf]; rfl
    · rw [nameB, h2, List.drop_eq_nil_of_le h3, namI, Bool.true_and]
      simp [inB]; omega
def c_sNameOK : FSpec := c_isName
theorem k_sNameOK : FnOk Tryz.prog 149 c_sNameOK := by
  refine fn_mk [0, 2] [.tmp 2] (env_cons (cs := []) k_l00Word (env_nil (tyTab_ok []))) mixed Tryz.func149 rfl (by decide) rfl (by decide) rfl ?_
  intro ps hT hpre W hW
  simp only [c_sNameOK, TyA, Ty, Tys] at hT hpre
  simp only [c_isName, TyA, Ty, Tys] at hT
  obtain ⟨_, _, rfl, ⟨t, rfl, ht⟩, rfl⟩ := hT
  refine hW.vc [] _ _ ?_
  simp [-List.getD_eq_getElem?_getD, c_sNameOK, c_l00Word, c_isName, c_isName]
def wordB (t : List UInt8) : Bool := nameB t && decide ((t.length : Int) ≤ 12)
def c_isWindowName : FSpec := ⟨[(.rd, .str)], [.bool], true, fun _ => True, fun ps => [.bool (wordB (nth ps 0).S)], fun _ => []⟩
theorem k_isWindowName : FnOk Tryz.prog 202 c_isWindowName := by
  refine fn_mk [0, 2] [.tmp 2] (env_cons (cs := []) k_isName (env_nil (tyTab_ok []))) mixed Tryz.func202 rfl (by decide) rfl (by decide) rfl ?_
  intro ps hT hpre W hW
  simp only [c_isWindowName, TyA, Ty, Tys] at hT hpre
  obtain ⟨_, _, rfl, ⟨t, rfl, ht⟩, rfl⟩ := hT
  refine hW.vc [] _ _ ?_
  simp [-List.getD_eq_getElem?_getD, c_isWindowName, c_isName]
  exact fun _ => rfl
def c_isClientId : FSpec := ⟨[(.rd, .int .i64)], [.bool], true, fun _ => True, fun ps => [.bool (inB (nth ps 0).I 0 200)], fun _ => []⟩
theorem k_isClientId : FnOk Tryz.prog 201 c_isClientId := by
  refine fn_mk [0, 2] [.tmp 2] (env_cons (cs := []) k_within (env_nil (tyTab_ok []))) mixed Tryz.func201 rfl (by decide) rfl (by decide) rfl ?_
  intro ps hT hpre W hW
  simp only [c_isClientId, TyA, Ty, Tys] at hT hpre
  obtain ⟨_, _, rfl, ⟨n, rfl, hn⟩, rfl⟩ := hT
  refine hW.vc [] _ _ ?_
  simp [-List.getD_eq_getElem?_getD, c_isClientId, c_within]
def toldB (c : Int) (t : List UInt8) (n : Int) : Bool := inB c 0 200 && wordB t && inB n (-1) 60
def c_isTold : FSpec := ⟨[(.rd, .int .i64), (.rd, .str), (.rd, .int .i64)], [.bool], true, fun _ => True, fun ps => [.bool (toldB (nth ps 0).I (nth ps 1).S (nth ps 2).I)], fun _ => []⟩
theorem k_isTold : FnOk Tryz.prog 164 c_isTold := by
  refine fn_mk [0, 1, 2, 6] [.tmp 6] (env_cons (cs := []) k_within (env_cons (cs := []) k_isWindowName (env_cons (cs := []) k_isClientId (env_nil (tyTab_ok []))))) mixed Tryz.func164 rfl (by decide) rfl (by decide) rfl ?_
  intro ps hT hpre W hW
  simp only [c_isTold, TyA, Ty, Tys] at hT hpre
  obtain ⟨_, _, rfl, ⟨c, rfl, hc⟩, _, _, rfl, ⟨t, rfl, ht⟩, _, _, rfl, ⟨n, rfl, hn⟩, rfl⟩ := hT
  refine hW.vc [] _ _ ?_
  simp [-List.getD_eq_getElem?_getD, c_isTold, c_isClientId, c_isWindowName, c_within]
  rfl
def c_l12Ask : FSpec := c_isTold
theorem k_l12Ask : FnOk Tryz.prog 105 c_l12Ask := by
  refine fn_mk [0, 1, 2, 6] [.tmp 6] (env_cons (cs := []) k_sNameOK (env_cons (cs := []) k_l01In (env_nil (tyTab_ok [])))) mixed Tryz.func105 rfl (by decide) rfl (by decide) rfl ?_
  intro ps hT hpre W hW
  simp only [c_l12Ask, TyA, Ty, Tys] at hT hpre
  simp only [c_isTold, TyA, Ty, Tys] at hT
  obtain ⟨_, _, rfl, ⟨c, rfl, hc⟩, _, _, rfl, ⟨t, rfl, ht⟩, _, _, rfl, ⟨n, rfl, hn⟩, rfl⟩ := hT
  refine hW.vc [] _ _ ?_
  simp [-List.getD_eq_getElem?_getD, c_l12Ask, c_l01In, c_sNameOK, c_isTold, c_within, c_isName, c_within, c_isName]
  intro _
  simp only [toldB, wordB]
  cases inB c 0 200 <;> cases nameB t <;> cases decide ((t.length : Int) ≤ 12) <;> cases inB n (-1) 60 <;> rfl
end Go.Proofs.YtkofjkjcbljkdaaGreatDoor
end

section
namespace Go.Proofs.YtkofjkjcbljkdaaGreatDoor
variable [LaidG]
set_option maxRecDepth 100000
set_option linter.unusedSimpArgs false
def longN (n : Int) : Bool := decide (n > 65536)
end Go.Proofs.YtkofjkjcbljkdaaGreatDoor
end

section
namespace Go.Proofs.YtkofjkjcbljkdaaGreatDoor
variable [LaidG]
variable [LaidN 3] [LaidN 4]
variable [LaidN 5]
set_option maxRecDepth 100000
set_option linter.unusedSimpArgs false
def hexC : List UInt8 := [48, 49, 50, 51, 52, 53, 54, 55, 56, 57, 97, 98, 99, 100, 101, 102]
def hexB (h : List UInt8) : List UInt8 := h.flatMap fun b => [hexC.getD (b.toNat / 16) 0, hexC.getD (b.toNat % 16) 0]
theorem hexB_len (h : List UInt8) : (hexB h).length = 2 * h.length := by
  induction h with
  | nil => rfl
  | cons e st ih => simp only [hexB, List.flatMap_cons, List.length_append, List.length_cons, List.length_nil] at ih ⊢; omega
theorem hexB_take {h : List UInt8} {i : Nat} (hi : i < h.length) : hexB (h.take (i + 1)) = hexB (h.take i) ++ [hexC.getD ((h.getD i 0).toNat / 16) 0, hexC.getD ((h.getD i 0).toNat % 16) 0] := by
  rw [List.take_succ_eq_append_getElem hi, hexB, List.flatMap_append]; simp [hi, hexB]
theorem hx1 (b : UInt8) : IntKind.u8.wrap ((b.toNat : Int) / 16) = ((b.toNat / 16 : Nat) : Int) ∧ True := by
  have hb := b.toNat_lt
  simp [IntKind.wrap, IntKind.signed, IntKind.bits]; omega
theorem hx2 (b : UInt8) : (b.toNat : Int).tmod 16 = ((b.toNat % 16 : Nat) : Int) := by
  rw [Int.tmod_eq_emod_of_nonneg (by omega)]; omega
theorem hx3 (b : UInt8) : shrI .u8 (b.toNat : Int) 4 = ((b.toNat / 16 : Nat) : Int) := by
  have h : ∀ n : Fin 256, shrI .u8 (n.val : Int) 4 = ((n.val / 16 : Nat) : Int) := by decide +kernel
  exact h ⟨b.toNat, b.toNat_lt⟩
theorem hx4 (b : UInt8) : andI .u8 (b.toNat : Int) 15 = ((b.toNat % 16 : Nat) : Int) := by
  have h : ∀ n : Fin 256, andI .u8 (n.val : Int) 15 = ((n.val % 16 : Nat) : Int) := by decide +kernel
  exact h ⟨b.toNat, b.toNat_lt⟩
def c_hashText : FSpec := ⟨[(.rd, .str)], [.str], true, fun ps => (nth ps 0).S.length ≤ 1000000, fun ps => [.str (hexB (nth ps 0).S)], fun _ => []⟩
theorem k_hashText : FnOk Tryz.prog 222 c_hashText := by
  refine fn_mk [0, 2, 3, 4, 10, 11] [.tmp 2] (env_nil (tyTab_ok [])) mixed Tryz.func222 rfl (by decide) rfl (by decide) rfl ?_
  intro ps hT hpre W hW
  simp only [c_hashText, TyA, Ty, Tys] at hT hpre
  obtain ⟨_, _, rfl, ⟨h, rfl, hh⟩, rfl⟩ := hT
  simp only [nth_zero, nth_succ, pv_S] at hpre
  refine hW.vc [(5, [12], .take 0 <| .take 1 <| .take 2 <| .take 3 <| .take 4 <| .take 5 <| .take 6 <| .take 7 <| .take 8 <| .take 9 <| .take 10 <| .alt 11 (.alt 12 (.alt 13 (.done) .stop) .stop) .stop)] _ _ ?_
  simp [-List.getD_eq_getElem?_getD, c_hashText]
  rw [wrap64 (n := 2 * (h.length : Int)) (by omega)]
  refine fun _ => ⟨⟨by omega, by omega⟩, fun _ => ?_⟩
  refine hW.loopS _ _ _ [.sl 3 .dp (.list (.int .u8)), .sl 11 .dp (.int .i64)] (fun ys => ∃ i : Nat, ys = [.list (bytesPV (hexB (h.take i))), .int .i64 i] ∧ i ≤ h.length) (fun ys => h.length - (nth ys 1).I.toNat) ?_ ?_
  · simp [-List.getD_eq_getElem?_getD, c_hashText]
    exact ⟨0, ⟨rfl, rfl⟩, by omega⟩
  · rintro ys ⟨i, rfl, h1⟩
    refine hW.vc [(5, [12], .take 0 <| .take 1 <| .take 2 <| .take 3 <| .take 4 <| .take 5 <| .take 6 <| .take 7 <| .take 8 <| .take 9 <| .take 10 <| .alt 11 (.alt 12 (.alt 13 (.done) .stop) .stop) .stop)] _ _ ?_
    simp [-List.getD_eq_getElem?_getD, c_hashText]
    have hl : (bytesPV (hexB (h.take i))).length = 2 * i := by rw [bytesPV_len, hexB_len, List.length_take]; omega
    rw [wrap64 (n := (i : Int) + 1) (by omega), hl, hx3, hx4]
    refine ⟨fun h2 => ?_, fun h2 => ?_⟩
    · have hb := (h.getD i 0).toNat_lt
      refine ⟨by decide +kernel, h2, ⟨by omega, by omega⟩, h2, ⟨by omega, by omega⟩, by decide, by omega, fun _ => ⟨⟨i + 1, ⟨?_, by omega⟩, by omega⟩, by omega⟩⟩
      rw [hexB_take h2, bytesPV_app]; rfl
    · rw [List.take_of_length_le h2, pvBytes_bytes]
def c_l01Hex : FSpec := c_hashText
theorem k_l01Hex : FnOk Tryz.prog 192 c_l01Hex := by
  refine fn_mk [0, 2, 3, 4] [.tmp 2] (env_nil (tyTab_ok [])) mixed Tryz.func192 rfl (by decide) rfl (by decide) rfl ?_
  intro ps hT hpre W hW
  simp only [c_l01Hex, TyA, Ty, Tys] at hT hpre
  simp only [c_hashText, TyA, Ty, Tys] at hT hpre
  obtain ⟨_, _, rfl, ⟨h, rfl, hh⟩, rfl⟩ := hT
  simp only [nth_zero, nth_succ, pv_S] at hpre
  refine hW.vc [(5, [12], .take 0 <| .take 1 <| .take 2 <| .take 3 <| .take 4 <| .take 5 <| .take 6 <| .take 7 <| .take 8 <| .take 9 <| .take 10 <| .alt 11 (.alt 12 (.alt 13 (.done) .stop) .stop) .stop)] _ _ ?_
  simp [-List.getD_eq_getElem?_getD, c_l01Hex, c_hashText]
  refine hW.loopS _ _ _ [.sl 3 .dp (.list (.int .u8)), .sl 4 .dp (.int .i64)] (fun ys => ∃ i : Nat, ys = [.list (bytesPV (hexB (h.take i))), .int .i64 i] ∧ i ≤ h.length) (fun ys => h.length - (nth ys 1).I.toNat) ?_ ?_
  · simp [-List.getD_eq_getElem?_getD, c_l01Hex, c_hashText]
    exact ⟨0, ⟨rfl, rfl⟩, by omega⟩
  · rintro ys ⟨i, rfl, h1⟩
    refine hW.vc [(5, [12], .take 0 <| .take 1 <| .take 2 <| .take 3 <| .take 4 <| .take 5 <| .take 6 <| .take 7 <| .take 8 <| .take 9 <| .take 10 <| .alt 11 (.alt 12 (.alt 13 (.done) .stop) .stop) .stop)] _ _ ?_
    simp [-List.getD_eq_getElem?_getD, c_l01Hex, c_hashText]
    have hl : (bytesPV (hexB (h.take i))).length = 2 * i := by rw [bytesPV_len, hexB_len, List.length_take]; omega
    rw [wrap64 (n := (i : Int) + 1) (by omega), hl, (hx1 (h.getD i 0)).1, hx2]
    refine fun _ => ⟨fun h2 => ?_, fun h2 => ?_⟩
    · have hb := (h.getD i 0).toNat_lt
      refine ⟨by decide +kernel, h2, ⟨by omega, by omega⟩, h2, ⟨by omega, by omega⟩, by decide, by omega, fun _ => ⟨⟨i + 1, ⟨?_, by omega⟩, by omega⟩, by omega⟩⟩
      rw [hexB_take h2, bytesPV_app]; rfl
    · rw [List.take_of_length_le h2, pvBytes_bytes]
def markL (key head : List UInt8) : List UInt8 := (hexB (hmacL key head)).take 32
theorem markL_len (key head : List UInt8) : (markL key head).length = 32 := by
  rw [markL, List.length_take, hexB_len, hmacL_len]; rfl
def c_markOf : FSpec := ⟨[(.rd, .str), (.rd, .str)], [.str], true, fun ps => (nth ps 0).S.length ≤ 1000000 ∧ (nth ps 1).S.length ≤ 1000000, fun ps => [.str (markL (nth ps 0).S (nth ps 1).S)], fun _ => []⟩
theorem k_markOf : FnOk Tryz.prog 180 c_markOf := by
  refine fn_mk [0, 1, 4] [.tmp 4] (env_cons (cs := []) k_hashText (env_cons (cs := []) k_hmac (env_nil (tyTab_ok [])))) mixed Tryz.func180 rfl (by decide) rfl (by decide) rfl ?_
  intro ps hT hpre W hW
  simp only [c_markOf, TyA, Ty, Tys] at hT hpre
  obtain ⟨_, _, rfl, ⟨key, rfl, hkey⟩, _, _, rfl, ⟨msg, rfl, hmsg⟩, rfl⟩ := hT
  simp only [nth_zero, nth_succ, pv_S] at hpre
  refine hW.vc [] _ _ ?_
  simp [-List.getD_eq_getElem?_getD, c_markOf, c_hmac, c_hashText]
  exact ⟨hpre, by rw [hmacL_len]; omega, by rw [hexB_len, hmacL_len]; omega, rfl⟩
theorem decS_neg {n : Int} (h : n < 0) (h2 : -999 ≤ n) : decS n = 45 :: decS (-n) := by
  have e1 : (-n).toNat = n.natAbs := by omega
  rw [decS, decS, Lib.itoa, Lib.itoa, if_pos h, if_neg (by omega), e1]
theorem decS_small {n : Int} (h : 0 ≤ n) (h2 : n < 10) : decS n = [UInt8.ofNat (48 + n).toNat] := by
  have : ∀ k : Fin 10, decS (k.val : Int) = [UInt8.ofNat (48 + (k.val : Int)).toNat] := by decide +kernel
  have := this ⟨n.toNat, by omega⟩
  rwa [show ((n.toNat : Nat) : Int) = n by omega] at this
theorem decS_big {n : Int} (h : 10 ≤ n) (h2 : n < 1000) : decS n = decS (n / 10) ++ [UInt8.ofNat (48 + n % 10).toNat] := by
  have : ∀ k : Fin 1000, k.val < 10 ∨ decS (k.val : Int) = decS ((k.val : Int) / 10) ++ [UInt8.ofNat (48 + (k.val : Int) % 10).toNat] := by decide +kernel
  have := this ⟨n.toNat, by omega⟩
  rw [show ((n.toNat : Nat) : Int) = n by omega] at this
  rcases this with h3 | h3
  · simp at h3; omega
  · exact h3
theorem dgU {n : Int} (h : 0 ≤ n) (h2 : n < 10) : pvBytes [PV.int .u8 (IntKind.u8.wrap (IntKind.i64.wrap (48 + n)))] = [UInt8.ofNat (48 + n).toNat] := by
  have e : IntKind.u8.wrap (48 + n) = 48 + n := by
    simp [IntKind.wrap, IntKind.signed, IntKind.bits]; omega
  rw [wrap64 (by omega), e]; rfl
def c_l00Digits0 : FSpec := ⟨[(.rd, .int .i64)], [.str], true, fun ps => 0 ≤ (nth ps 0).I ∧ (nth ps 0).I < 10, fun ps => [.str (decS (nth ps 0).I)], fun _ => []⟩
theorem k_l00Digits0 : FnOk Tryz.prog 191 c_l00Digits0 := by
  refine fn_mk [0, 2] [.tmp 2] (env_nil (tyTab_ok [])) mixed Tryz.func191 rfl (by decide) rfl (by decide) rfl ?_
  intro ps hT hpre W hW
  simp only [c_l00Digits0, TyA, Ty, Tys] at hT hpre
  obtain ⟨_, _, rfl, ⟨n, rfl, hn⟩, rfl⟩ := hT
  simp only [nth_zero, nth_succ, pv_I] at hpre
  refine hW.vc [(7, [], .take 0 <| .take 1 <| .take 3 <| .take 4 <| .take 5 <| .take 6 <| .alt 2 (.alt 7 (.take 8 <| .take 9 <| .alt 10 (.done) .stop) .stop) (.alt 7 (.take 8 <| .alt 2 (.take 9 <| .alt 10 (.done) .stop) .stop) .stop))] _ _ ?_
  simp [-List.getD_eq_getElem?_getD, c_l00Digits0]
  refine ⟨fun h => by exfalso; omega, fun _ => ⟨fun h => by exfalso; omega, fun h => ⟨fun h3 => by rw [dgU h h3, decS_small h h3], hpre.2⟩⟩⟩
def c_l00Digits1 : FSpec := ⟨[(.rd, .int .i64)], [.str], true, fun ps => 0 ≤ (nth ps 0).I ∧ (nth ps 0).I < 100, fun ps => [.str (decS (nth ps 0).I)], fun _ => []⟩
theorem k_l00Digits1 : FnOk Tryz.prog 191 c_l00Digits1 := by
  refine fn_mk [0, 2] [.tmp 2] (env_cons (cs := []) k_l00Digits0 (env_nil (tyTab_ok []))) mixed Tryz.func191 rfl (by decide) rfl (by decide) rfl ?_
  intro ps hT hpre W hW
  simp only [c_l00Digits1, TyA, Ty, Tys] at hT hpre
  obtain ⟨_, _, rfl, ⟨n, rfl, hn⟩, rfl⟩ := hT
  simp only [nth_zero, nth_succ, pv_I] at hpre
  refine hW.vc [(7, [], .take 0 <| .take 1 <| .take 3 <| .take 4 <| .take 5 <| .take 6 <| .alt 2 (.alt 7 (.take 8 <| .take 9 <| .alt 10 (.done) .stop) .stop) (.alt 7 (.take 8 <| .alt 2 (.take 9 <| .alt 10 (.done) .stop) .stop) .stop))] _ _ ?_
  simp [-List.getD_eq_getElem?_getD, c_l00Digits1, c_l00Digits0]
  have e1 : 0 ≤ n → n.tdiv 10 = n / 10 := fun h => Int.tdiv_eq_ediv_of_nonneg h
  have e2 : 0 ≤ n → n.tmod 10 = n % 10 := fun h => Int.tmod_eq_emod_of_nonneg h
  refine ⟨fun h => by exfalso; omega, fun _ => ⟨fun h => ?_, fun h => ⟨fun h3 => by rw [dgU h h3, decS_small h h3], fun h3 => ?_⟩⟩⟩
  · rw [wrap64 (by omega)]
    have l := decS_len (n := -n) (by omega) (by omega)
    exact ⟨by omega, by omega, (decS_neg h (by omega)).symm⟩
  · rw [e1 h, e2 h, wrap64 (n := n / 10) (by omega), dgU (by omega) (by omega)]
    have l := decS_len (n := n / 10) (by omega) (by omega)
    exact ⟨by decide +kernel, by omega, by simp only [List.length_cons, List.length_nil]; omega, (decS_big h3 (by omega)).symm⟩
def c_l00Digits : FSpec := ⟨[(.rd, .int .i64)], [.str], true, fun ps => -1 ≤ (nth ps 0).I ∧ (nth ps 0).I < 1000, fun ps => [.str (decS (nth ps 0).I)], fun _ => []⟩
theorem k_l00Digits : FnOk Tryz.prog 191 c_l00Digits := by
  refine fn_mk [0, 2] [.tmp 2] (env_cons (cs := []) k_l00Digits1 (env_nil (tyTab_ok []))) mixed Tryz.func191 rfl (by decide) rfl (by decide) rfl ?_
  intro ps hT hpre W hW
  simp only [c_l00Digits, TyA, Ty, Tys] at hT hpre
  obtain ⟨_, _, rfl, ⟨n, rfl, hn⟩, rfl⟩ := hT
  simp only [nth_zero, nth_succ, pv_I] at hpre
  refine hW.vc [(7, [], .take 0 <| .take 1 <| .take 3 <| .take 4 <| .take 5 <| .take 6 <| .alt 2 (.alt 7 (.take 8 <| .take 9 <| .alt 10 (.done) .stop) .stop) (.alt 7 (.take 8 <| .alt 2 (.take 9 <| .alt 10 (.done) .stop) .stop) .stop))] _ _ ?_
  simp [-List.getD_eq_getElem?_getD, c_l00Digits, c_l00Digits1]
  have e1 : 0 ≤ n → n.tdiv 10 = n / 10 := fun h => Int.tdiv_eq_ediv_of_nonneg h
  have e2 : 0 ≤ n → n.tmod 10 = n % 10 := fun h => Int.tmod_eq_emod_of_nonneg h
  refine ⟨fun h => by exfalso; omega, fun _ => ⟨fun h => ?_, fun h => ⟨fun h3 => by rw [dgU h h3, decS_small h h3], fun h3 => ?_⟩⟩⟩
  · rw [wrap64 (by omega)]
    have l := decS_len (n := -n) (by omega) (by omega)
    exact ⟨by omega, by omega, (decS_neg h (by omega)).symm⟩
  · rw [e1 h, e2 h, wrap64 (n := n / 10) (by omega), dgU (by omega) (by omega)]
    have l := decS_len (n := n / 10) (by omega) (by omega)
    exact ⟨by decide +kernel, by omega, by simp only [List.length_cons, List.length_nil]; omega, (decS_big h3 (by omega)).symm⟩
end Go.Proofs.YtkofjkjcbljkdaaGreatDoor
end

section
namespace Go.Proofs.YtkofjkjcbljkdaaGreatDoor
variable [LaidG]
variable [LaidN 3] [LaidN 4]
variable [LaidN 5]
set_option maxRecDepth 100000
set_option linter.unusedSimpArgs false
def headL (c : Int) (t : List UInt8) (n : Int) : List UInt8 := [116, 111, 107, 101, 110, 32] ++ (decS c ++ ([32] ++ (t ++ ([32] ++ decS n))))
theorem headL_len {c n : Int} {t : List UInt8} (hc : 0 ≤ c) (hc2 : c ≤ 200) (ht : t.length ≤ 12) (hn : -1 ≤ n) (hn2 : n ≤ 60) : (headL c t n).length ≤ 26 := by
  have l1 := decS_len (n := c) (by omega) (by omega)
  have l2 := decS_len (n := n) (by omega) (by omega)
  simp only [headL, List.length_append, List.length_cons, List.length_nil]
  omega
def toldP (c : Int) (t : List UInt8) (n : Int) : Prop := 0 ≤ c ∧ c ≤ 200 ∧ t.length ≤ 12 ∧ -1 ≤ n ∧ n ≤ 60
def c_tokenHead : FSpec := ⟨[(.rd, .int .i64), (.rd, .str), (.rd, .int .i64)], [.str], true, fun ps => toldP (nth ps 0).I (nth ps 1).S (nth ps 2).I, fun ps => [.str (headL (nth ps 0).I (nth ps 1).S (nth ps 2).I)], fun _ => []⟩
theorem k_tokenHead : FnOk Tryz.prog 179 c_tokenHead := by
  refine fn_mk [0, 1, 2, 6] [.tmp 6] (env_cons (cs := []) k_Itoa (env_nil (tyTab_ok []))) mixed Tryz.func179 rfl (by decide) rfl (by decide) rfl ?_
  intro ps hT hpre W hW
  simp only [c_tokenHead, TyA, Ty, Tys] at hT hpre
  obtain ⟨_, _, rfl, ⟨c, rfl, hc⟩, _, _, rfl, ⟨t, rfl, ht⟩, _, _, rfl, ⟨n, rfl, hn⟩, rfl⟩ := hT
  simp only [nth_zero, nth_succ, pv_I, pv_S, toldP] at hpre
  refine hW.vc [] _ _ ?_
  simp [-List.getD_eq_getElem?_getD, c_tokenHead, c_Itoa]
  obtain ⟨q1, q2, q3, q4, q5⟩ := hpre
  have l1 := decS_len (n := c) (by omega) (by omega)
  have l2 := decS_len (n := n) (by omega) (by omega)
  exact ⟨by omega, by omega, by omega, by omega, by omega, by omega, by omega, rfl⟩
def c_l12Plain : FSpec := c_tokenHead
theorem k_l12Plain : FnOk Tryz.prog 150 c_l12Plain := by
  refine fn_mk [0, 1, 2, 6] [.tmp 6] (env_cons (cs := []) k_l00Digits (env_nil (tyTab_ok []))) mixed Tryz.func150 rfl (by decide) rfl (by decide) rfl ?_
  intro ps hT hpre W hW
  simp only [c_l12Plain, TyA, Ty, Tys] at hT hpre
  simp only [c_tokenHead, TyA, Ty, Tys] at hT hpre
  obtain ⟨_, _, rfl, ⟨c, rfl, hc⟩, _, _, rfl, ⟨t, rfl, ht⟩, _, _, rfl, ⟨n, rfl, hn⟩, rfl⟩ := hT
  simp only [nth_zero, nth_succ, pv_I, pv_S, toldP] at hpre
  refine hW.vc [] _ _ ?_
  simp [-List.getD_eq_getElem?_getD, c_l12Plain, c_l00Digits, c_tokenHead]
  obtain ⟨q1, q2, q3, q4, q5⟩ := hpre
  have l1 := decS_len (n := c) (by omega) (by omega)
  have l2 := decS_len (n := n) (by omega) (by omega)
  exact ⟨by omega, by omega, by omega, by omega, by omega, by omega, by omega, rfl⟩
def c_l12Mark : FSpec := ⟨[(.rd, .str), (.rd, .int .i64), (.rd, .str), (.rd, .int .i64)], [.str], true, fun ps => (nth ps 0).S.length ≤ 1000000 ∧ toldP (nth ps 1).I (nth ps 2).S (nth ps 3).I, fun ps => [.str (markL (nth ps 0).S (headL (nth ps 1).I (nth ps 2).S (nth ps 3).I))], fun _ => []⟩
theorem k_l12Mark : FnOk Tryz.prog 151 c_l12Mark := by
  refine fn_mk [0, 1, 2, 3, 8] [.tmp 8] (env_cons (cs := []) k_l01Hex (env_cons (cs := []) k_l02Hmac (env_cons (cs := []) k_l12Plain (env_nil (tyTab_ok []))))) mixed Tryz.func151 rfl (by decide) rfl (by decide) rfl ?_
  intro ps hT hpre W hW
  simp only [c_l12Mark, TyA, Ty, Tys] at hT hpre
  obtain ⟨_, _, rfl, ⟨key, rfl, hkey⟩, _, _, rfl, ⟨c, rfl, hc⟩, _, _, rfl, ⟨t, rfl, ht⟩, _, _, rfl, ⟨n, rfl, hn⟩, rfl⟩ := hT
  simp only [nth_zero, nth_succ, pv_I, pv_S] at hpre
  refine hW.vc [] _ _ ?_
  simp [-List.getD_eq_getElem?_getD, c_l12Mark, c_l12Plain, c_l02Hmac, c_l01Hex, c_tokenHead, c_hmac, c_hashText, c_tokenHead, c_hmac, c_hashText]
  obtain ⟨q0, hp⟩ := hpre
  have hp' := hp
  obtain ⟨q1, q2, q3, q4, q5⟩ := hp'
  have l1 := headL_len q1 q2 q3 q4 q5
  exact ⟨hp, ⟨q0, by omega⟩, by rw [hmacL_len]; omega, by rw [hexB_len, hmacL_len]; omega, rfl⟩
def tokenL (key : List UInt8) (c : Int) (t : List UInt8) (n : Int) : List UInt8 := headL c t n ++ ([32] ++ markL key (headL c t n))
def c_tokenOf : FSpec := ⟨[(.rd, .str), (.rd, .int .i64), (.rd, .str), (.rd, .int .i64)], [.str], true, fun ps => (nth ps 0).S.length ≤ 1000000 ∧ toldP (nth ps 1).I (nth ps 2).S (nth ps 3).I, fun ps => [.str (tokenL (nth ps 0).S (nth ps 1).I (nth ps 2).S (nth ps 3).I)], fun _ => []⟩
theorem k_tokenOf : FnOk Tryz.prog 132 c_tokenOf := by
  refine fn_mk [0, 1, 2, 3, 8, 9] [.tmp 8] (env_cons (cs := []) k_markOf (env_cons (cs := []) k_tokenHead (env_nil (tyTab_ok [])))) mixed Tryz.func132 rfl (by decide) rfl (by decide) rfl ?_
  intro ps hT hpre W hW
  simp only [c_tokenOf, TyA, Ty, Tys] at hT hpre
  obtain ⟨_, _, rfl, ⟨key, rfl, hkey⟩, _, _, rfl, ⟨c, rfl, hc⟩, _, _, rfl, ⟨t, rfl, ht⟩, _, _, rfl, ⟨n, rfl, hn⟩, rfl⟩ := hT
  simp only [nth_zero, nth_succ, pv_I, pv_S] at hpre
  refine hW.vc [] _ _ ?_
  simp [-List.getD_eq_getElem?_getD, c_tokenOf, c_tokenHead, c_markOf]
  obtain ⟨q0, hp⟩ := hpre
  have hp' := hp
  obtain ⟨q1, q2, q3, q4, q5⟩ := hp'
  have l1 := headL_len q1 q2 q3 q4 q5
  exact ⟨hp, by omega, ⟨q0, by omega⟩, by rw [markL_len]; omega, rfl⟩
def c_l12Issue : FSpec := c_tokenOf
theorem k_l12Issue : FnOk Tryz.prog 106 c_l12Issue := by
  refine fn_mk [0, 1, 2, 3, 8] [.tmp 8] (env_cons (cs := []) k_l12Mark (env_cons (cs := []) k_l12Plain (env_nil (tyTab_ok [])))) mixed Tryz.func106 rfl (by decide) rfl (by decide) rfl ?_
  intro ps hT hpre W hW
  simp only [c_l12Issue, TyA, Ty, Tys] at hT hpre
  simp only [c_tokenOf, TyA, Ty, Tys] at hT hpre
  obtain ⟨_, _, rfl, ⟨key, rfl, hkey⟩, _, _, rfl, ⟨c, rfl, hc⟩, _, _, rfl, ⟨t, rfl, ht⟩, _, _, rfl, ⟨n, rfl, hn⟩, rfl⟩ := hT
  simp only [nth_zero, nth_succ, pv_I, pv_S] at hpre
  refine hW.vc [] _ _ ?_
  simp [-List.getD_eq_getElem?_getD, c_l12Issue, c_l12Plain, c_l12Mark, c_tokenOf, c_tokenHead, c_tokenHead]
  obtain ⟨q0, hp⟩ := hpre
  have hp' := hp
  obtain ⟨q1, q2, q3, q4, q5⟩ := hp'
  have l1 := headL_len q1 q2 q3 q4 q5
  exact ⟨hp, by omega, ⟨q0, hp⟩, by rw [markL_len]; omega, rfl⟩
end Go.Proofs.YtkofjkjcbljkdaaGreatDoor
end

section
namespace Go.Proofs.YtkofjkjcbljkdaaGreatDoor
variable [LaidG]
variable [LaidN 3] [LaidN 4]
variable [LaidN 5]
set_option maxRecDepth 100000
set_option linter.unusedSimpArgs false
theorem toldB_P {c n : Int} {t : List UInt8} (h : toldB c t n = true) : toldP c t n := by
  simp only [toldB, wordB, inB, Bool.and_eq_true, decide_eq_true_eq] at h
  unfold toldP
  omega
end Go.Proofs.YtkofjkjcbljkdaaGreatDoor
end

section
namespace Go.Proofs.YtkofjkjcbljkdaaGreatDoor
variable [LaidG]
variable [LaidN 3] [LaidN 4]
variable [LaidN 5]
set_option maxRecDepth 100000
set_option linter.unusedSimpArgs false
theorem told_0 (c : Int) (t : List UInt8) : toldB c t 0 = toldB c t (-1) := by simp [toldB, inB]
def cliB (key : List UInt8) (c : List PV) : Bool := toldB (nth c 0).I (nth c 1).S (-1) && mirB [nth c 3, nth c 4, nth c 5, nth c 6] && (nth c 2).S == tokenL key (nth c 0).I (nth c 1).S (nth c 3).I
theorem mirB_n {n w h : Int} {rs : List PV} (hm : mirB [.int .i64 n, .int .i64 w, .int .i64 h, .list rs] = true) : -1 ≤ n ∧ n ≤ 60 := by
  by_cases hn : n = -1
  · omega
  · simp [mirB, nth_zero, nth_succ, pv_I, pv_L, hn] at hm
    have h1 := hm.1.1
    simp [inB] at h1
    omega
theorem told_n {c n : Int} {t : List UInt8} (h : toldB c t (-1) = true) (h1 : -1 ≤ n) (h2 : n ≤ 60) : toldP c t n := by
  obtain ⟨q1, q2, q3, q4, q5⟩ := toldB_P h
  exact ⟨q1, q2, q3, h1, h2⟩
def c_isClient : FSpec := ⟨[(.rd, .str), (.rd, .agg [.int .i64, .str, .str, .int .i64, .int .i64, .int .i64, .list .str])], [.bool], true, fun ps => (nth ps 0).S.length ≤ 1000000, fun ps => [.bool (cliB (nth ps 0).S (nth ps 1).A)], fun _ => []⟩
theorem k_isClient : FnOk Tryz.prog 113 c_isClient := by
  refine fn_mk [0, 1, 3, 4] [.tmp 4] (env_cons (cs := []) k_tokenOf (env_cons (cs := []) k_isMirror (env_cons (cs := []) k_isTold (env_nil (tyTab_ok []))))) mixed Tryz.func113 rfl (by decide) rfl (by decide) rfl ?_
  intro ps hT hpre W hW
  simp only [c_isClient, TyA, Ty, Tys] at hT hpre
  obtain ⟨_, _, rfl, ⟨key, rfl, hkey⟩, _, _, rfl, ⟨_, rfl, _, _, rfl, ⟨c, rfl, hc⟩, _, _, rfl, ⟨t, rfl, ht⟩, _, _, rfl, ⟨k, rfl, hk⟩, _, _, rfl, ⟨n, rfl, hn⟩, _, _, rfl, ⟨w, rfl, hw⟩, _, _, rfl, ⟨h, rfl, hh⟩, _, _, rfl, ⟨rs, rfl, hrs, trs⟩, rfl⟩, rfl⟩ := hT
  simp only [nth_zero, nth_succ, pv_S] at hpre
  refine hW.vc [(1, [], .take 0 <| .take 1 <| .take 2 <| .take 3 <| .alt 4 (.take 5 <| .take 6 <| .take 7 <| .alt 8 (.take 9 <| .take 10 <| .take 11 <| .take 12 <| .take 13 <| .take 14 <| .take 15 <| .take 16 <| .take 17 <| .take 18 <| .take 19 <| .take 20 <| .alt 21 (.take 22 <| .take 23 <| .alt 24 (.done) .stop) .stop) .stop) .stop)] _ _ ?_
  simp [-List.getD_eq_getElem?_getD, c_isClient, c_isTold, c_isMirror, c_tokenOf]
  exact ⟨by decide +kernel, fun h1 h2 => ⟨hpre, told_n h1 (mirB_n h2).1 (mirB_n h2).2⟩, rfl⟩
def okCli (key : List UInt8) (c : List PV) : Bool := !longN key.length && cliB key c
def c_ClientOK : FSpec := ⟨[(.rd, .str), (.rd, .agg [.int .i64, .str, .str, .int .i64, .int .i64, .int .i64, .list .str])], [.bool], true, fun _ => True, fun ps => [.bool (okCli (nth ps 0).S (nth ps 1).A)], fun _ => []⟩
def c_sClientOK : FSpec := c_ClientOK
theorem k_sClientOK : FnOk Tryz.prog 56 c_sClientOK := by
  refine fn_mk [0, 1, 3, 4] [.tmp 4] (env_cons (cs := []) k_l12Issue (env_cons (cs := []) k_sMirrorOK (env_cons (cs := []) k_l12Ask (env_nil (tyTab_ok []))))) mixed Tryz.func56 rfl (by decide) rfl (by decide) rfl ?_
  intro ps hT hpre W hW
  simp only [c_sClientOK, TyA, Ty, Tys] at hT hpre
  simp only [c_ClientOK, TyA, Ty, Tys] at hT
  obtain ⟨_, _, rfl, ⟨key, rfl, hkey⟩, _, _, rfl, ⟨_, rfl, _, _, rfl, ⟨c, rfl, hc⟩, _, _, rfl, ⟨t, rfl, ht⟩, _, _, rfl, ⟨k, rfl, hk⟩, _, _, rfl, ⟨n, rfl, hn⟩, _, _, rfl, ⟨w, rfl, hw⟩, _, _, rfl, ⟨h, rfl, hh⟩, _, _, rfl, ⟨rs, rfl, hrs, trs⟩, rfl⟩, rfl⟩ := hT
  refine hW.vc [(3, [], .take 0 <| .take 1 <| .take 2 <| .take 3 <| .take 4 <| .take 5 <| .take 6 <| .take 7 <| .alt 8 (.take 9 <| .take 10 <| .take 11 <| .take 12 <| .alt 13 (.take 14 <| .take 15 <| .take 16 <| .take 17 <| .take 18 <| .take 19 <| .take 20 <| .take 21 <| .take 22 <| .take 23 <| .take 24 <| .take 25 <| .alt 26 (.take 27 <| .take 28 <| .alt 29 (.done) .stop) .stop) .stop) .stop)] _ _ ?_
  simp [-List.getD_eq_getElem?_getD, c_sClientOK, c_l12Ask, c_sMirrorOK, c_l12Issue, c_ClientOK, c_isTold, c_isMirror, c_tokenOf, c_isTold, c_isMirror, c_tokenOf]
  refine fun hk => ⟨fun h => ?_, fun h => ⟨by decide +kernel, fun _ => ⟨fun _ h2 h3 => ⟨by omega, told_n (by rw [← told_0]; exact h2) (mirB_n h3).1 (mirB_n h3).2⟩, ?_⟩⟩⟩
  · have : longN key.length = true := by simp [longN]; omega
    simp [okCli, this]
  · have : longN key.length = false := by simp [longN]; omega
    have h' : decide ((key.length : Int) ≤ 65536) = true := decide_eq_true h
    rw [told_0, h']
    simp [okCli, cliB, this, nth_zero, nth_succ, pv_I, pv_S]
end Go.Proofs.YtkofjkjcbljkdaaGreatDoor
end

section
namespace Go.Proofs.YtkofjkjcbljkdaaGreatDoor
variable [LaidG]
variable [LaidN 3] [LaidN 4]
variable [LaidN 5]
set_option maxRecDepth 100000
set_option linter.unusedSimpArgs false
def wkey : List UInt8 := [119, 111, 114, 108, 100, 32, 107, 101, 121]
def c_sWorldKey : FSpec := ⟨[], [.str], true, fun _ => True, fun _ => [.str wkey], fun _ => []⟩
theorem k_sWorldKey : FnOk Tryz.prog 57 c_sWorldKey := by
  refine fn_mk [0] [.tmp 0] (env_nil (tyTab_ok [])) mixed Tryz.func57 rfl (by decide) rfl (by decide) rfl ?_
  intro ps hT hpre W hW
  simp only [c_sWorldKey, TyA, Ty, Tys] at hT hpre
  refine hW.vc [] _ _ ?_
  simp [-List.getD_eq_getElem?_getD, c_sWorldKey]
  rfl
end Go.Proofs.YtkofjkjcbljkdaaGreatDoor
end

section
namespace Go.Proofs.YtkofjkjcbljkdaaGreatDoor
variable [LaidG]
variable [LaidN 3] [LaidN 4]
variable [LaidN 5]
set_option maxRecDepth 100000
set_option linter.unusedSimpArgs false
def csB : Int → List PV → Bool
  | _, [] => true
  | i, c :: cs => decide ((nth c.A 0).I = i) && cliB wkey c.A && csB (i + 1) cs
def worB (w h : Int) (ns ss ws ds cs : List PV) : Bool := sizeB w h && decide (cs.length = 2) && cluB ns ss ws ds && csB 0 cs
theorem cli_eta (k : List UInt8) (e : PV) : cliB k [.int .i64 (nth e.A 0).I, .str (nth e.A 1).S, .str (nth e.A 2).S, .int .i64 (nth e.A 3).I, .int .i64 (nth e.A 4).I, .int .i64 (nth e.A 5).I, .list (nth e.A 6).L] = cliB k e.A := rfl
theorem ac4 (p q r s : Bool) : (p && q && r && s) = (r && p && (s && q)) := by cases p <;> cases q <;> cases r <;> cases s <;> rfl
theorem ok_eta (e : PV) : okCli wkey [.int .i64 (nth e.A 0).I, .str (nth e.A 1).S, .str (nth e.A 2).S, .int .i64 (nth e.A 3).I, .int .i64 (nth e.A 4).I, .int .i64 (nth e.A 5).I, .list (nth e.A 6).L] = cliB wkey e.A := by
  have : longN wkey.length = false := by decide
  rw [okCli, this]; rfl
theorem wor_a {w h : Int} {ns ss ws ds cs : List PV} (q : (sizeB w h = false ∨ ¬ (cs.length : Int) = 2) ∨ cluB ns ss ws ds = false) : worB w h ns ss ws ds cs = false := by
  rcases q with (q | q) | q
  · simp [worB, q]
  · have : decide (cs.length = 2) = false := decide_eq_false (by omega)
    simp [worB, this]
  · simp [worB, q]
theorem wor_b {w h : Int} {ns ss ws ds cs : List PV} (q1 : sizeB w h = true) (q2 : (cs.length : Int) = 2) (q3 : cluB ns ss ws ds = true) : worB w h ns ss ws ds cs = csB 0 cs := by
  have : decide (cs.length = 2) = true := decide_eq_true (by omega)
  rw [worB, q1, this, q3]; rfl
theorem wor_c {w h : Int} {ns ss ws ds cs : List PV} (q : (sizeB w h = false ∨ cluB ns ss ws ds = false) ∨ ¬ (cs.length : Int) = 2) : worB w h ns ss ws ds cs = false := by
  rcases q with (q | q) | q
  · exact wor_a (.inl (.inl q))
  · exact wor_a (.inr q)
  · exact wor_a (.inl (.inr q))
theorem two_of {cs : List PV} (h : (cs.length : Int) = 2) : ∃ a b, cs = [a, b] := by
  match cs, h with
  | [a, b], _ => exact ⟨a, b, rfl⟩
  | [], h => simp at h
  | [_], h => simp at h
  | _ :: _ :: _ :: _, h => simp at h; omega
def c_isWorld : FSpec := ⟨[(.rd, .agg [.int .i64, .int .i64, .list (.agg [.int .i64, .int .i64, .int .i64, .int .i64, .int .i64, .bool, .list (.agg [.int .i64, .str]), .int .i64, .int .i64, .int .i64, .list (.int .i64), .list (.int .i64), .list (.int .i64)]), .list (.agg [.str, .int .i64]), .list (.agg [.int .i64, .int .i64, .int .i64, .int .i64, .int .i64, .int .i64, .int .i64, .bool, .list (.agg [.int .i64, .str])]), .list .str, .list (.agg [.int .i64, .str, .str, .int .i64, .int .i64, .int .i64, .list .str])])], [.bool], true, fun _ => True, fun ps => [.bool (worB (nth (nth ps 0).A 0).I (nth (nth ps 0).A 1).I (nth (nth ps 0).A 2).L (nth (nth ps 0).A 3).L (nth (nth ps 0).A 4).L (nth (nth ps 0).A 5).L (nth (nth ps 0).A 6).L)], fun _ => []⟩
theorem k_isWorld : FnOk Tryz.prog 60 c_isWorld := by
  refine fn_mk [0, 1, 2, 3, 4, 24, 25, 26] [.tmp 2] (env_cons (cs := []) k_isClient (env_cons (cs := []) k_isCluster (env_cons (cs := []) k_isSize (env_nil (tyTab_ok []))))) mixed Tryz.func60 rfl (by decide) rfl (by decide) rfl ?_
  intro ps hT hpre W hW
  simp only [c_isWorld, TyA, Ty, Tys] at hT hpre
  obtain ⟨_, _, rfl, ⟨_, rfl, _, _, rfl, ⟨ww, rfl, hww⟩, _, _, rfl, ⟨wh, rfl, hwh⟩, _, _, rfl, ⟨ns, rfl, hns, tns⟩, _, _, rfl, ⟨ss, rfl, hss, tss⟩, _, _, rfl, ⟨ws, rfl, hws, tws⟩, _, _, rfl, ⟨ds, rfl, hds, tds⟩, _, _, rfl, ⟨cs, rfl, hcs, tcs⟩, rfl⟩, rfl⟩ := hT
  refine hW.vc [] _ _ ?_
  simp [-List.getD_eq_getElem?_getD, c_isWorld, c_isSize, c_isCluster, c_isClient]
  refine fun _ => ⟨fun q => wor_a q, fun q1 q2 q3 _ => ?_⟩
  have hB := wor_b q1 q2 q3
  refine hW.loopS _ _ _ [.sl 26 .dp (.int .i64)] (fun ys => ∃ i : Nat, ys = [.int .i64 i] ∧ i ≤ cs.length ∧ csB 0 cs = csB i (cs.drop i)) (fun ys => cs.length - (nth ys 0).I.toNat) ?_ ?_
  · simp [-List.getD_eq_getElem?_getD, c_isWorld, c_isSize, c_isCluster, c_isClient]
    exact ⟨0, rfl, by simp, by simp⟩
  · rintro ys ⟨i, rfl, h5, h6⟩
    refine hW.vc [] _ _ ?_
    simp [-List.getD_eq_getElem?_getD, c_isWorld, c_isSize, c_isCluster, c_isClient, cli_eta]
    refine ⟨fun h7 => ⟨h7, ?_⟩, fun h7 => ?_⟩
    · rw [drop_nth h7, csB] at h6
      clear hW
      intros
      refine ⟨fun q => ?_, fun r1 r2 => ?_⟩
      · rw [hB, h6]
        rcases q with q | q
        · rw [decide_eq_false q]; rfl
        · have q : cliB wkey (nth cs i).A = false := q
          rw [q]; simp
      · have r2 : cliB wkey (nth cs i).A = true := r2
        rw [decide_eq_true r1, r2] at h6
        rw [wrap64 (by omega)]
        exact ⟨⟨i + 1, by omega, by omega, h6⟩, by omega⟩
    · rw [hB, h6, List.drop_eq_nil_of_le h7]; rfl
def c_WorldOK : FSpec := c_isWorld
theorem k_WorldOK : FnOk Tryz.prog 26 c_WorldOK := by
  refine fn_mk [0, 1, 2] [.tmp 2] (env_cons (cs := []) k_isWorld (env_nil (tyTab_ok []))) mixed Tryz.func26 rfl (by decide) rfl (by decide) rfl ?_
  intro ps hT hpre W hW
  simp only [c_WorldOK, TyA, Ty, Tys] at hT hpre
  simp only [c_isWorld, TyA, Ty, Tys] at hT
  obtain ⟨_, _, rfl, ⟨_, rfl, _, _, rfl, ⟨ww, rfl, hww⟩, _, _, rfl, ⟨wh, rfl, hwh⟩, _, _, rfl, ⟨ns, rfl, hns, tns⟩, _, _, rfl, ⟨ss, rfl, hss, tss⟩, _, _, rfl, ⟨ws, rfl, hws, tws⟩, _, _, rfl, ⟨ds, rfl, hds, tds⟩, _, _, rfl, ⟨cs, rfl, hcs, tcs⟩, rfl⟩, rfl⟩ := hT
  refine hW.vc [] _ _ ?_
  simp [-List.getD_eq_getElem?_getD, c_WorldOK, c_isWorld, c_isWorld]
def c_sWorldOK : FSpec := c_isWorld
theorem k_sWorldOK : FnOk Tryz.prog 24 c_sWorldOK := by
  refine fn_mk [0, 1, 2] [.tmp 2] (env_cons (cs := []) k_sClientOK (env_cons (cs := []) k_sWorldKey (env_cons (cs := []) k_ClusterOK (env_cons (cs := []) k_l04Size (env_nil (tyTab_ok [])))))) mixed Tryz.func24 rfl (by decide) rfl (by decide) rfl ?_
  intro ps hT hpre W hW
  simp only [c_sWorldOK, TyA, Ty, Tys] at hT hpre
  simp only [c_isWorld, TyA, Ty, Tys] at hT
  obtain ⟨_, _, rfl, ⟨_, rfl, _, _, rfl, ⟨ww, rfl, hww⟩, _, _, rfl, ⟨wh, rfl, hwh⟩, _, _, rfl, ⟨ns, rfl, hns, tns⟩, _, _, rfl, ⟨ss, rfl, hss, tss⟩, _, _, rfl, ⟨ws, rfl, hws, tws⟩, _, _, rfl, ⟨ds, rfl, hds, tds⟩, _, _, rfl, ⟨cs, rfl, hcs, tcs⟩, rfl⟩, rfl⟩ := hT
  refine hW.vc [(3, [], .take 1 <| .take 2 <| .take 3 <| .take 4 <| .alt 0 (.alt 5 (.take 6 <| .take 8 <| .take 9 <| .take 10 <| .take 11 <| .alt 7 (.alt 12 (.take 13 <| .take 14 <| .take 15 <| .take 16 <| .take 17 <| .take 18 <| .take 19 <| .take 20 <| .take 21 <| .take 22 <| .take 23 <| .take 24 <| .take 25 <| .take 26 <| .take 27 <| .take 28 <| .take 29 <| .alt 30 (.done) .stop) .stop) .stop) .stop) .stop)] _ _ ?_
  simp [-List.getD_eq_getElem?_getD, c_sWorldOK, c_l04Size, c_ClusterOK, c_sWorldKey, c_sClientOK, c_isWorld, c_isSize, c_isCluster, c_ClientOK, c_isWorld, c_isSize, c_isCluster, c_ClientOK, cli_eta]
  refine fun _ => ⟨fun q => wor_c q, fun q1 q3 q2 => ⟨by decide +kernel, ?_⟩⟩
  rw [wor_b q1 q2 q3]
  obtain ⟨a, b, rfl⟩ := two_of q2
  clear hW
  simp only [nth_zero, nth_succ, ok_eta]
  have hS : csB 0 [a, b] = (decide ((nth a.A 0).I = 0) && cliB wkey a.A && (decide ((nth b.A 0).I = 1) && cliB wkey b.A)) := by simp [csB]
  rw [hS]
  repeat' (first | apply And.intro | intro _)
  all_goals first
    | omega
    | assumption
    | decide +kernel
    | exact ac4 _ _ _ _
    | (simp; done)
    | (have q : cliB wkey a.A = false := by assumption
       rw [q]; simp; done)
    | (simp [*]; done)
    | trace_state
def c_exWorldOK : FSpec := ⟨[(.rd, .agg [.int .i64, .int .i64, .list (.agg [.int .i64, .int .i64, .int .i64, .int .i64, .int .i64, .bool, .list (.agg [.int .i64, .str]), .int .i64, .int .i64, .int .i64, .list (.int .i64), .list (.int .i64), .list (.int .i64)]), .list (.agg [.str, .int .i64]), .list (.agg [.int .i64, .int .i64, .int .i64, .int .i64, .int .i64, .int .i64, .int .i64, .bool, .list (.agg [.int .i64, .str])]), .list .str, .list (.agg [.int .i64, .str, .str, .int .i64, .int .i64, .int .i64, .list .str])])], [.bool], true, fun _ => True, fun _ => [.bool true], fun _ => []⟩
theorem k_exWorldOK : FnOk Tryz.prog 5 c_exWorldOK := by
  refine fn_mk [0, 1, 2, 3, 4, 5, 6] [.tmp 2] (env_cons (cs := []) k_eqWorld (env_cons (cs := []) k_WorldOK (env_cons (cs := []) k_sWorldOK (env_cons (cs := []) k_toWorld (env_cons (cs := []) k_szWorld (env_nil (tyTab_ok []))))))) mixed Tryz.func5 rfl (by decide) rfl (by decide) rfl ?_
  intro ps hT hpre W hW
  simp only [c_exWorldOK, TyA, Ty, Tys] at hT hpre
  obtain ⟨_, _, rfl, ⟨_, rfl, _, _, rfl, ⟨ww, rfl, hww⟩, _, _, rfl, ⟨wh, rfl, hwh⟩, _, _, rfl, ⟨ns, rfl, hns, tns⟩, _, _, rfl, ⟨ss, rfl, hss, tss⟩, _, _, rfl, ⟨ws, rfl, hws, tws⟩, _, _, rfl, ⟨ds, rfl, hds, tds⟩, _, _, rfl, ⟨cs, rfl, hcs, tcs⟩, rfl⟩, rfl⟩ := hT
  refine hW.vc [(10, [], .take 0 <| .take 1 <| .alt 2 (.alt 3 (.take 4 <| .done) .stop) .stop)] _ _ ?_
  simp [-List.getD_eq_getElem?_getD, c_exWorldOK, c_szWorld, c_toWorld, c_sWorldOK, c_WorldOK, c_eqWorld, c_isWorld, c_isWorld, eqWor_refl]
  intro hz
  obtain ⟨z1, z2, z3⟩ := szWor_le (v := [.int .i64 ww, .int .i64 wh, .list ns, .list ss, .list ws, .list ds, .list cs]) (l := 1048576) (by omega)
  have z4 := z3 hz (by omega)
  exact ⟨z4, by decide +kernel, z4⟩
end Go.Proofs.YtkofjkjcbljkdaaGreatDoor
end

section
namespace Go.Proofs.YtkofjkjcbljkdaaGreatDoor
variable [LaidG]
set_option linter.unusedVariables false
def ptyOf (g : Bool) (l : List PTy) : PTy := if g then .agg l else l.headD .opq
mutual
/-- The types of data: their leaves. -/
inductive Dat (P : Program) : Nat → Bool → List PTy → Prop
  | int {t k} : P.underlying t = some (.int k) → t < P.types.size → Dat P t false [.int k]
  | bool {t} : P.underlying t = some .bool → t < P.types.size → Dat P t false [.bool]
  | str {t} : P.underlying t = some .string → t < P.types.size → Dat P t false [.str]
  | slice {t e g l} : P.underlying t = some (.slice e) → Dat P e g l → P.cellsOf e = l.length → 0 < l.length → 0 < P.bytesOf e → t < P.types.size → Dat P t false [.list (ptyOf g l)]
  | struct {t fs l} : P.underlying t = some (.struct fs) → Dats P (fs.toList.map (·.type)) l → P.cellsOf t = l.length → t < P.types.size → Dat P t true l
inductive Dats (P : Program) : List Nat → List PTy → Prop
  | nil : Dats P [] []
  | cons {t ts g l m} : Dat P t g l → P.cellsOf t = l.length → Dats P ts m → Dats P (t :: ts) (l ++ m)
end
section
variable {H : Type} {enc : TypeId × Value → H} {P : Program} {w : World} {base : Nat} {spare : Nat → Bool}
theorem Dat.lt {t : Nat} {g : Bool} {l : List PTy} (h : Dat P t g l) : t < P.types.size := by
  cases h <;> assumption
theorem dat_leaf {t : Nat} {l : List PTy} (h : Dat P t false l) : ∃ T, l = [T] ∧ ∀ ts, T ≠ .agg ts := by
  cases h <;> exact ⟨_, rfl, by simp⟩
theorem cells_get {base : Nat} {a : Addr} {n : Nat} {cs : List Value} (h : w.cells? base a n = some cs) : cs.length = n ∧ ∀ i, i < n → w.cell? (a.add i) = cs[i]? := by
  unfold World.cells? at h
  split at h
  · refine ⟨by simpa using mapM_some_length h, fun i hi => ?_⟩
    have := mapM_some_get h i i (by simp [hi])
    exact this
  · cases h
theorem lim_reach {n : Nat} (h : n ≤ reachBytes) : n ≤ LIM := by
  unfold reachBytes at h; unfold LIM; omega
theorem elems_lv {g : Bool} {l : List PTy} {T : PTy} (hT : T = ptyOf g l) (hg : g = false → ∃ T, l = [T] ∧ ∀ ts, T ≠ .agg ts) : ∀ (css : List (List Value)), (∀ cs ∈ css, ∃ qs f, Lv w l qs cs f) →
    ∃ es f, es.length = css.length ∧ (∀ e ∈ es, Shp T e) ∧ Lv w (flatT T es.length) (flatP es) css.flatten f ∧ T.leaves = l
  | [], _ => ⟨[], [], rfl, by simp, by simpa [flatT, flatP] using Lv.nil, by
      subst hT
      cases g with
      | true => rfl
      | false => obtain ⟨T, rfl, h⟩ := hg rfl; cases T <;> first | rfl | exact absurd rfl (h _)⟩
  | cs :: css, h => by
    obtain ⟨es, f, e1, e2, e3, e4⟩ := elems_lv hT hg css fun x hx => h x (by simp [hx])
    obtain ⟨qs, f1, hq⟩ := h cs (by simp)
    have key : ∃ e, Shp T e ∧ e.leaves = qs := by
      subst hT
      cases g with
      | true => exact ⟨.agg qs, ⟨qs, rfl, hq.lens.1.symm⟩, rfl⟩
      | false =>
        obtain ⟨T, rfl, hn⟩ := hg rfl
        have hl := hq.lens.1
        match qs, hl with
        | [q], _ =>
          have hne := hq.leaves_of q (by simp)
          refine ⟨q, ?_, ?_⟩
          · show Shp T q
            cases T <;> first | exact hne | exact absurd rfl (hn _)
          · cases q <;> first | rfl | exact absurd rfl (hne _)
    obtain ⟨e, k1, k2⟩ := key
    refine ⟨e :: es, f1 ++ f, by simp [e1], ?_, ?_, e4⟩
    · intro x hx; rcases List.mem_cons.1 hx with rfl | hx
      · exact k1
      · exact e2 x hx
    · have q1 : flatT T (e :: es).length = T.leaves ++ flatT T es.length := by simp [flatT, List.replicate_succ]
      have q2 : flatP (e :: es) = e.leaves ++ flatP es := by simp [flatP]
      rw [q1, q2, e4, k2, List.flatten_cons]
      exact hq.append e3
theorem wf_inR {k : IntKind} {n : Int} (h : (Lit.int k n).wf = true) : inR k n := by
  unfold Lit.wf at h; unfold inR
  simpa only [Bool.and_eq_true, decide_eq_true_eq] using h
theorem row_take {c : Array Value} {ci : List Value} {o k : Nat} (h1 : ci.length = k) (h2 : ∀ j, j < k → c[o + j]? = ci[j]?) : (c.toList.drop o).take k = ci := by
  apply List.ext_getElem?
  intro j
  by_cases hj : j < k
  · rw [List.getElem?_take, if_pos hj, List.getElem?_drop, ← h2 j hj]; simp
  · rw [List.getElem?_take, if_neg hj, List.getElem?_eq_none (by omega)]
theorem rows_take {c : Array Value} {o k : Nat} : ∀ (css : List (List Value)) (i0 : Nat), (∀ i ci, css[i]? = some ci → ci.length = k ∧ ∀ j, j < k → c[o + (i0 + i) * k + j]? = ci[j]?) → (c.toList.drop (o + i0 * k)).take css.flatten.length = css.flatten
  | [], i0, _ => by simp
  | ci :: css, i0, h => by
    obtain ⟨h1, h2⟩ := h 0 ci (by simp)
    have ih := rows_take (c := c) (o := o) (k := k) css (i0 + 1) fun i cj hi => by
      have := h (i + 1) cj (by simpa using hi)
      rw [show i0 + (i + 1) = i0 + 1 + i by omega] at this
      exact this
    simp only [List.flatten_cons, List.length_append]
    rw [List.take_add, List.drop_drop, h1]
    congr 1
    · exact row_take h1 fun j hj => by simpa using h2 j hj
    · rw [show o + i0 * k + k = o + (i0 + 1) * k by rw [Nat.add_mul]; omega]
      exact ih
theorem weightsAll_mem {e : TypeId} : ∀ {ds : List (DataW H)} {d : DataW H}, d ∈ ds → ∀ y ∈ d.weights P e, y ∈ DataW.weightsAll P e ds
  | x :: ds, d, hd, y, hy => by
    simp only [DataW.weightsAll, List.mem_append]
    rcases List.mem_cons.1 hd with rfl | hd
    · exact .inl hy
    · exact .inr (weightsAll_mem hd y hy)
theorem dats_lv {n : Nat} {cs : List Value} (ih : ∀ t g l cs x, Dat P t g l → DataW.trod enc P w base spare true n t cs = some x → (∀ y ∈ x.1.weights P t, y ≤ reachBytes) → ∃ qs f, Lv w l qs cs f) : ∀ (fs : List Field) (l : List PTy) (xs : List (DataW H × List MemPlace)) (o : Nat), Dats P (fs.map Field.type) l →
  (∀ (j : Nat) (f : Field), fs[j]? = some f → f.offset = o + ((fs.take j).map fun (f : Field) => P.cellsOf f.type).sum) → (∀ (j : Nat) (f : Field), fs[j]? = some f → DataW.trod enc P w base spare true n f.type ((cs.drop f.offset).take (P.cellsOf f.type)) = xs[j]?) → xs.length = fs.length →
    (∀ y ∈ DataW.weightsEach P (fs.map Field.type) (xs.map (·.1)), y ≤ reachBytes) → ∃ qs f, Lv w l qs ((cs.drop o).take l.length) f
  | [], l, xs, o, hd, hof, hx, hlen, hw => by cases hd; exact ⟨[], [], by simpa using Lv.nil⟩
  | f :: fs, l, xs, o, hd, hof, hx, hlen, hw => by
    cases xs with
    | nil => simp at hlen
    | cons x xs =>
      simp only [List.map_cons] at hd hw
      cases hd with
      | @cons t ts g l1 m h1 h2 h3 =>
        have e0 := hof 0 f (by simp)
        simp only [List.take_zero, List.map_nil, List.sum_nil, Nat.add_zero] at e0
        have x0 := hx 0 f (by simp)
        simp only [List.getElem?_cons_zero, e0, h2] at x0
        simp only [DataW.weightsEach, List.mem_append] at hw
        obtain ⟨q1, f1, hq1⟩ := ih _ _ _ _ _ h1 x0 (fun y hy => hw y (.inl hy))
        obtain ⟨q2, f2, hq2⟩ := dats_lv ih fs m xs (o + l1.length) h3 (fun j f' hj => by
          have := hof (j + 1) f' (by simpa using hj)
          simp only [List.take_succ_cons, List.map_cons, List.sum_cons, h2] at this
          omega) (fun j f' hj => by simpa using hx (j + 1) f' (by simpa using hj)) (by simpa using hlen) (fun y hy => hw y (.inr hy))
        refine ⟨q1 ++ q2, f1 ++ f2, ?_⟩
        rw [List.length_append, List.take_add, List.drop_drop]
        exact hq1.append hq2
theorem trod_lv (K : Kids P (· < P.types.size)) (hdt : ∀ t g l, Dat P t g l → t < P.types.size) : ∀ (n : Nat) (t : Nat) (g : Bool) (l : List PTy) (cs : List Value) (x : DataW H × List MemPlace), Dat P t g l → DataW.trod enc P w base spare true n t cs = some x → (∀ y ∈ x.1.weights P t, y ≤ reachBytes) → ∃ qs f, Lv w l qs cs f := by
  intro n
  induction n with
  | zero => intro t g l cs x _ h; simp [DataW.trod] at h
  | succ n ih =>
    intro t g l cs x hd h hw
    have hd0 := hd
    cases hd with
    | int ht _ =>
      obtain ⟨m, rfl, rfl, hwf⟩ := DataW.trod_int ht h
      exact ⟨[.int _ m], [], .int (wf_inR hwf) .nil⟩
    | bool ht _ =>
      obtain ⟨b, rfl, rfl⟩ := DataW.trod_bool ht h
      exact ⟨[.bool b], [], .bool .nil⟩
    | str ht _ =>
      obtain ⟨b, rfl, rfl, hl⟩ := DataW.trod_string ht h
      have := hw b.data.toList.length (by simp [DataW.weights])
      refine ⟨[.str b.data.toList], [], ?_⟩
      have hL := Lv.str (w := w) (lim_reach this) (Lv.nil (w := w))
      simpa using hL
    | @slice _ e g' l' ht he hc hpos hby _ =>
      rcases DataW.trod_slice ht h with ⟨rfl, rfl⟩ | ⟨a, len, cap, elems, rest, m, hm, rfl, rfl, hb, hle, hcap, hel, hget, _⟩
      · exact ⟨[.list []], [], .empty .nil⟩
      · have hmn : m = n := by omega
        subst hmn
        simp only [DataW.weights, ht, List.length_map, List.mem_cons, List.mem_append] at hw
        have hlim : len ≤ LIM := by
          have h1 := lim_reach (hw _ (.inl rfl))
          have h2 : elems.length * 1 ≤ (elems.length + rest.length) * P.bytesOf e := Nat.mul_le_mul (by omega) hby
          omega
        cases len with
        | zero => exact ⟨[.list []], [], .empty .nil⟩
        | succ len =>
          have hcell : ∀ i, i < len + 1 → ∃ ci y, w.cells? base (a.add (i * l'.length)) l'.length = some ci ∧ elems[i]? = some y ∧ ∃ qs f, Lv w l' qs ci f := by
            intro i hi
            have h1 := hget i hi
            have hy : elems[i]? = some elems[i] := by simp [hel, hi]
            rw [hy, hc] at h1
            cases hci : w.cells? base (a.add (i * l'.length)) l'.length with
            | none => rw [hci] at h1; cases h1
            | some ci =>
              rw [hci] at h1
              exact ⟨ci, _, rfl, hy, ih e g' l' ci _ he h1 fun y hy => hw y (.inr (.inl (weightsAll_mem (List.mem_map.2 ⟨_, List.getElem_mem (by omega), rfl⟩) y hy)))⟩
          let ci : Nat → List Value := fun i => (w.cells? base (a.add (i * l'.length)) l'.length).getD []
          have hci : ∀ i, i < len + 1 → w.cells? base (a.add (i * l'.length)) l'.length = some (ci i) ∧ ∃ qs f, Lv w l' qs (ci i) f := by
            intro i hi
            obtain ⟨c, y, h1, _, h2⟩ := hcell i hi
            have : ci i = c := by simp [ci, h1]
            rw [this]; exact ⟨h1, h2⟩
          have hT : ∃ T, T = ptyOf g' l' := ⟨_, rfl⟩
          obtain ⟨T, hT⟩ := hT
          obtain ⟨es, f, e1, e2, e3, e4⟩ := elems_lv (w := w) hT (fun hg => by subst hg; exact dat_leaf he) ((List.range (len + 1)).map ci) fun cs hcs => by
            obtain ⟨i, hi, rfl⟩ := List.mem_map.1 hcs
            exact (hci i (by simpa using hi)).2
          simp only [List.length_map, List.length_range] at e1
          obtain ⟨b, o, sp⟩ := a
          have h00 := (cells_get (hci 0 (by omega)).1)
          have h01 := h00.2 0 hpos
          have hne : ∃ u, (ci 0)[0]? = some u := ⟨(ci 0)[0]'(by omega), by simp [h00.1, hpos]⟩
          obtain ⟨u, hu⟩ := hne
          rw [hu] at h01
          have ha0 : (Addr.add ⟨b, o, sp⟩ (0 * l'.length)).add 0 = ⟨b, o, sp⟩ := by simp [Addr.add]
          rw [ha0] at h01
          simp only [World.cell?] at h01
          have hblk : ∃ c t' fr, w.heap[b]? = some (.cells c t' fr) ∧ sp = none := by
            split at h01
            · rename_i c t' fr hc'
              refine ⟨c, t', fr, hc', ?_⟩
              cases sp with
              | none => rfl
              | some _ => simp at h01
            · cases h01
          obtain ⟨c, t', fr, hblk, rfl⟩ := hblk
          refine ⟨[.list es], b :: f ++ [], ?_⟩
          subst hT
          have := Lv.list (cap := cap) (o := o) hblk e2 ⟨by omega, by omega⟩ e3 ?_ Lv.nil
          · rw [e1] at this
            exact this
          · have := rows_take (c := c) (o := o) (k := l'.length) ((List.range (len + 1)).map ci) 0 fun i cj hi => by
              simp only [List.getElem?_map, List.getElem?_range, Option.map_eq_some_iff] at hi
              obtain ⟨j, hj, rfl⟩ := hi
              have hij : i < len + 1 ∧ i = j := by
                by_cases hlt : i < len + 1
                · rw [List.getElem?_range hlt] at hj; cases hj; exact ⟨hlt, rfl⟩
                · rw [List.getElem?_eq_none (by simp; omega)] at hj; cases hj
              obtain ⟨hlt, rfl⟩ := hij
              obtain ⟨k1, k2⟩ := cells_get (hci i hlt).1
              refine ⟨k1, fun j hj => ?_⟩
              have := k2 j hj
              rw [addr_add, addr_add] at this
              simp only [World.cell?, hblk] at this
              rw [← this]
              simp [Nat.add_assoc]
            simpa using this
    | @struct _ fs l ht hds hc _ =>
      obtain ⟨xs, m, hm, rfl, hlen, hxl, hget⟩ := DataW.trod_struct ht h
      have hmn : m = n := by omega
      subst hmn
      obtain ⟨_, _, hoff⟩ := K.struct (hdt _ _ _ hd0) ht
      simp only [DataW.weights, ht] at hw
      obtain ⟨qs, f, hq⟩ := dats_lv (cs := cs) ih fs.toList l xs 0 hds (fun j f hj => by simpa using hoff j f hj) (fun j f hj => hget j f (by simpa using hj)) (by simpa using hxl) hw
      refine ⟨qs, f, ?_⟩
      rw [List.drop_zero, List.take_of_length_le (by omega)] at hq
      exact hq
end
end Go.Proofs.YtkofjkjcbljkdaaGreatDoor
end

section
namespace Go.Proofs.YtkofjkjcbljkdaaGreatDoor
variable [LaidG]
open Go.ChangeShapes Go.WideShapes Go.ChangeAt Go.RowKit
set_option linter.unusedVariables false
inductive ArgTys (P : Program) : List Nat → List (Md × PTy) → Prop
  | nil : ArgTys P [] []
  | cons {t ts g l ats} : Dat P t g l → ArgTys P ts ats → ArgTys P (t :: ts) ((.rd, ptyOf g l) :: ats)
section
variable {H : Type} {enc : TypeId × Value → H} {P : Program} {W W' : World}
theorem okWide_agg {base : Nat} {t : Nat} {l : List PTy} {v : Value} (hd : Dat P t true l) (h : Value.okWide P W .any base t v) : ∃ cs, v = .agg cs := by
  cases hd with
  | struct ht _ _ _ =>
    unfold Value.okWide at h
    rw [ht] at h
    obtain ⟨cs, h, _⟩ := h
    exact ⟨cs, h⟩
theorem okWide_leaf {base : Nat} {t : Nat} {l : List PTy} {v : Value} (hd : Dat P t false l) (h : Value.okWide P W .any base t v) : v.cells.toList = [v] := by
  cases hd with
  | int ht _ => unfold Value.okWide Cell.okWide Cell.ok at h; rw [ht] at h; cases v <;> first | rfl | (simp at h)
  | bool ht _ => unfold Value.okWide Cell.okWide Cell.ok at h; rw [ht] at h; cases v <;> first | rfl | (simp at h)
  | str ht _ => unfold Value.okWide Cell.okWide Cell.ok at h; rw [ht] at h; cases v <;> first | rfl | (simp at h)
  | slice ht _ _ _ _ _ => unfold Value.okWide Cell.okWide Cell.ok at h; rw [ht] at h; cases v <;> first | rfl | (simp at h)
theorem arg_lv (K : Kids P (· < P.types.size)) (hdt : ∀ t g l, Dat P t g l → t < P.types.size) {base : Nat} {t : Nat} {g : Bool} {l : List PTy} {v : Value} {d : DataW H} {p : List MemPlace} (hd : Dat P t g l) (hk : Value.okWide P W .any base t v)
    (h : DataW.Trod enc P W 0 (fun _ => true) true t v d p) (hw : ∀ y ∈ d.weights P t, y ≤ reachBytes) : ∃ q f, ArgV W (ptyOf g l) q v f f := by
  obtain ⟨n, h⟩ := h
  obtain ⟨qs, f, hL⟩ := trod_lv K hdt n t g l _ (d, p) hd h hw
  cases g with
  | true =>
    obtain ⟨cs, rfl⟩ := okWide_agg hd hk
    exact ⟨.agg qs, f, qs, cs.toList, rfl, by simp, hL, rfl⟩
  | false =>
    rw [okWide_leaf hd hk] at hL
    obtain ⟨T, rfl, hn⟩ := dat_leaf hd
    have hl := hL.lens.1
    match qs, hl with
    | [q], _ =>
      refine ⟨q, f, ?_⟩
      show ArgV W T q v f f
      cases T with
      | agg ts => exact absurd rfl (hn ts)
      | box ts => cases hL
      | abx t => cases hL
      | fn g ts => cases hL
      | opq => cases hL
      | int k => exact ⟨hL, rfl⟩
      | bool => exact ⟨hL, rfl⟩
      | str => exact ⟨hL, rfl⟩
      | list t => exact ⟨hL, rfl⟩
theorem args_lv (K : Kids P (· < P.types.size)) (hdt : ∀ t g l, Dat P t g l → t < P.types.size) {base : Nat} : ∀ {ts : List Nat} {ats : List (Md × PTy)} {vs : List Value} {ds : List (DataW H)} {ps : List MemPlace}, ArgTys P ts ats →
    (∀ (j : Nat) t v, ts[j]? = some t → vs[j]? = some v → Value.okWide P W .any base t v) → DataW.TrodAll enc P W 0 (fun _ => true) true ts vs ds ps → (∀ y ∈ DataW.weightsEach P ts ds, y ≤ reachBytes) →
    ∃ qs fs, ArgsV W ats qs vs fs fs []
  | [], ats, vs, ds, ps, ha, hk, h, hw => by
    cases ha
    cases vs <;> cases ds <;> simp [DataW.TrodAll] at h
    exact ⟨[], [], .nil⟩
  | t :: ts, ats, [], ds, ps, ha, hk, h, hw => by cases ds <;> simp [DataW.TrodAll] at h
  | t :: ts, ats, v :: vs, [], ps, ha, hk, h, hw => by simp [DataW.TrodAll] at h
  | t :: ts, ats, v :: vs, d :: ds, ps, ha, hk, h, hw => by
    cases ha with
    | @cons _ _ g l ats' hd ha =>
      obtain ⟨p, q, h1, h2, rfl⟩ := h
      simp only [DataW.weightsEach, List.mem_append] at hw
      obtain ⟨q1, f1, k1⟩ := arg_lv K hdt hd (hk 0 t v (by simp) (by simp)) h1 (fun y hy => hw y (.inl hy))
      obtain ⟨qs, fs, k2⟩ := args_lv K hdt ha (fun j t' v' hj hv => hk (j + 1) t' v' (by simpa using hj) (by simpa using hv)) h2 (fun y hy => hw y (.inr hy))
      exact ⟨q1 :: qs, f1 ++ fs, .rd k1 k2⟩
theorem sameAt_fr (h : Fr W [] W') {p : MemPlace} (hp : p.block < W.heap.size) : W.sameAt W' p := by
  have hb := h.block p.block hp (by simp)
  cases p with
  | cell b o => simp only [World.sameAt, World.cell?]; rw [show W'.heap[b]? = W.heap[b]? from hb]
  | map b => exact hb
theorem trodAll_fr (h : Fr W [] W') {sp : Nat → Bool} : ∀ {ts : List TypeId} {vs : List Value} {ds : List (DataW H)} {ps : List MemPlace}, DataW.TrodAll enc P W 0 sp true ts vs ds ps → (∀ p ∈ ps, p.block < W.heap.size) → DataW.TrodAll enc P W' 0 sp true ts vs ds ps
  | [], [], [], _, h0, _ => h0
  | [], [], _ :: _, _, h0, _ => h0.elim
  | [], _ :: _, _, _, h0, _ => h0.elim
  | _ :: _, [], _, _, h0, _ => h0.elim
  | _ :: _, _ :: _, [], _, h0, _ => h0.elim
  | t :: ts, v :: vs, d :: ds, _, ⟨p, q, ⟨n, h1⟩, h2, e⟩, hl => by
    subst e
    exact ⟨p, q, ⟨n, DataW.trod_carry n t _ _ h1 fun x hx => sameAt_fr h (hl x (List.mem_append_left _ hx))⟩, trodAll_fr h h2 fun x hx => hl x (List.mem_append_right _ hx), rfl⟩
theorem keptBut_fr (h : Fr W [] W') (may : MemPlace → Prop) : W.keptBut W' may := by
  refine ⟨h.os, h.output, fun i hi => ?_⟩
  rw [h.block i hi (by simp)]
  have := (World.keptBut_refl W may).2.2 i hi
  exact this
end
end Go.Proofs.YtkofjkjcbljkdaaGreatDoor
end

section
namespace Go.Proofs.YtkofjkjcbljkdaaGreatDoor
variable [LaidG]
set_option maxRecDepth 100000
theorem lt3 : 3 < Tryz.prog.types.size := of_decide_eq_true (by kernel_rfl)
theorem D3 : Dat Tryz.prog 3 false [.int .i64] := .int Tryz.underlying3 lt3
theorem lt4 : 4 < Tryz.prog.types.size := of_decide_eq_true (by kernel_rfl)
theorem D4 : Dat Tryz.prog 4 false [.bool] := .bool Tryz.underlying4 lt4
theorem lt9 : 9 < Tryz.prog.types.size := of_decide_eq_true (by kernel_rfl)
theorem D9 : Dat Tryz.prog 9 false [.str] := .str Tryz.underlying9 lt9
theorem lt24 : 24 < Tryz.prog.types.size := of_decide_eq_true (by kernel_rfl)
theorem D24 : Dat Tryz.prog 24 false [.list (.str)] := .slice (e := 9) (g := false) (l := [.str]) Tryz.underlying24 D9 (by kernel_rfl) (by decide) (of_decide_eq_true (by kernel_rfl)) lt24
theorem lt100 : 100 < Tryz.prog.types.size := of_decide_eq_true (by kernel_rfl)
theorem D100 : Dat Tryz.prog 100 false [.list (.int .i64)] := .slice (e := 3) (g := false) (l := [.int .i64]) Tryz.underlying100 D3 (by kernel_rfl) (by decide) (of_decide_eq_true (by kernel_rfl)) lt100
theorem lt255 : 255 < Tryz.prog.types.size := of_decide_eq_true (by kernel_rfl)
theorem D255 : Dat Tryz.prog 255 true [.int .i64, .str] := .struct Tryz.underlying255 (.cons (l := [.int .i64]) (m := [.str]) D3 (by kernel_rfl) (.cons (l := [.str]) (m := []) D9 (by kernel_rfl) .nil)) (by kernel_rfl) lt255
theorem lt197 : 197 < Tryz.prog.types.size := of_decide_eq_true (by kernel_rfl)
theorem D197 : Dat Tryz.prog 197 false [.list (.agg [.int .i64, .str])] := .slice (e := 255) (g := true) (l := [.int .i64, .str]) Tryz.underlying197 D255 (by kernel_rfl) (by decide) (of_decide_eq_true (by kernel_rfl)) lt197
theorem lt199 : 199 < Tryz.prog.types.size := of_decide_eq_true (by kernel_rfl)
theorem D199 : Dat Tryz.prog 199 true [.int .i64, .int .i64, .int .i64, .int .i64, .int .i64, .bool, .list (.agg [.int .i64, .str]), .int .i64, .int .i64, .int .i64, .list (.int .i64), .list (.int .i64), .list (.int .i64)] := .struct Tryz.underlying199 (.cons (l := [.int .i64]) (m := [.int .i64, .int .i64, .int .i64, .int .i64, .bool, .list (.agg [.int .i64, .str]), .int .i64, .int .i64, .int .i64, .list (.int .i64), .list (.int .i64), .list (.int .i64)]) D3 (by kernel_rfl) (.cons (l := [.int .i64]) (m := [.int .i64, .int .i64, .int .i64, .bool, .list (.agg [.int .i64, .str]), .int .i64, .int .i64, .int .i64, .list (.int .i64), .list (.int .i64), .list (.int .i64)]) D3 (by kernel_rfl) (.cons (l := [.int .i64]) (m := [.int .i64, .int .i64, .bool, .list (.agg [.int .i64, .str]), .int .i64, .int .i64, .int .i64, .list (.int .i64), .list (.int .i64), .list (.int .i64)]) D3 (by kernel_rfl) (.cons (l := [.int .i64]) (m := [.int .i64, .bool, .list (.agg [.int .i64, .str]), .int .i64, .int .i64, .int .i64, .list (.int .i64), .list (.int .i64), .list (.int .i64)]) D3 (by kernel_rfl) (.cons (l := [.int .i64]) (m := [.bool, .list (.agg [.int .i64, .str]), .int .i64, .int .i64, .int .i64, .list (.int .i64), .list (.int .i64), .list (.int .i64)]) D3 (by kernel_rfl) (.cons (l := [.bool]) (m := [.list (.agg [.int .i64, .str]), .int .i64, .int .i64, .int .i64, .list (.int .i64), .list (.int .i64), .list (.int .i64)]) D4 (by kernel_rfl) (.cons (l := [.list (.agg [.int .i64, .str])]) (m := [.int .i64, .int .i64, .int .i64, .list (.int .i64), .list (.int .i64), .list (.int .i64)]) D197 (by kernel_rfl) (.cons (l := [.int .i64]) (m := [.int .i64, .int .i64, .list (.int .i64), .list (.int .i64), .list (.int .i64)]) D3 (by kernel_rfl) (.cons (l := [.int .i64]) (m := [.int .i64, .list (.int .i64), .list (.int .i64), .list (.int .i64)]) D3 (by kernel_rfl) (.cons (l := [.int .i64]) (m := [.list (.int .i64), .list (.int .i64), .list (.int .i64)]) D3 (by kernel_rfl) (.cons (l := [.list (.int .i64)]) (m := [.list (.int .i64), .list (.int .i64)]) D100 (by kernel_rfl) (.cons (l := [.list (.int .i64)]) (m := [.list (.int .i64)]) D100 (by kernel_rfl) (.cons (l := [.list (.int .i64)]) (m := []) D100 (by kernel_rfl) .nil))))))))))))) (by kernel_rfl) lt199
theorem lt56 : 56 < Tryz.prog.types.size := of_decide_eq_true (by kernel_rfl)
theorem D56 : Dat Tryz.prog 56 false [.list (.agg [.int .i64, .int .i64, .int .i64, .int .i64, .int .i64, .bool, .list (.agg [.int .i64, .str]), .int .i64, .int .i64, .int .i64, .list (.int .i64), .list (.int .i64), .list (.int .i64)])] := .slice (e := 199) (g := true) (l := [.int .i64, .int .i64, .int .i64, .int .i64, .int .i64, .bool, .list (.agg [.int .i64, .str]), .int .i64, .int .i64, .int .i64, .list (.int .i64), .list (.int .i64), .list (.int .i64)]) Tryz.underlying56 D199 (by kernel_rfl) (by decide) (of_decide_eq_true (by kernel_rfl)) lt56
theorem lt201 : 201 < Tryz.prog.types.size := of_decide_eq_true (by kernel_rfl)
theorem D201 : Dat Tryz.prog 201 true [.str, .int .i64] := .struct Tryz.underlying201 (.cons (l := [.str]) (m := [.int .i64]) D9 (by kernel_rfl) (.cons (l := [.int .i64]) (m := []) D3 (by kernel_rfl) .nil)) (by kernel_rfl) lt201
theorem lt57 : 57 < Tryz.prog.types.size := of_decide_eq_true (by kernel_rfl)
theorem D57 : Dat Tryz.prog 57 false [.list (.agg [.str, .int .i64])] := .slice (e := 201) (g := true) (l := [.str, .int .i64]) Tryz.underlying57 D201 (by kernel_rfl) (by decide) (of_decide_eq_true (by kernel_rfl)) lt57
theorem lt204 : 204 < Tryz.prog.types.size := of_decide_eq_true (by kernel_rfl)
theorem D204 : Dat Tryz.prog 204 true [.int .i64, .int .i64, .int .i64, .int .i64, .int .i64, .int .i64, .int .i64, .bool, .list (.agg [.int .i64, .str])] := .struct Tryz.underlying204 (.cons (l := [.int .i64]) (m := [.int .i64, .int .i64, .int .i64, .int .i64, .int .i64, .int .i64, .bool, .list (.agg [.int .i64, .str])]) D3 (by kernel_rfl) (.cons (l := [.int .i64]) (m := [.int .i64, .int .i64, .int .i64, .int .i64, .int .i64, .bool, .list (.agg [.int .i64, .str])]) D3 (by kernel_rfl) (.cons (l := [.int .i64]) (m := [.int .i64, .int .i64, .int .i64, .int .i64, .bool, .list (.agg [.int .i64, .str])]) D3 (by kernel_rfl) (.cons (l := [.int .i64]) (m := [.int .i64, .int .i64, .int .i64, .bool, .list (.agg [.int .i64, .str])]) D3 (by kernel_rfl) (.cons (l := [.int .i64]) (m := [.int .i64, .int .i64, .bool, .list (.agg [.int .i64, .str])]) D3 (by kernel_rfl) (.cons (l := [.int .i64]) (m := [.int .i64, .bool, .list (.agg [.int .i64, .str])]) D3 (by kernel_rfl) (.cons (l := [.int .i64]) (m := [.bool, .list (.agg [.int .i64, .str])]) D3 (by kernel_rfl) (.cons (l := [.bool]) (m := [.list (.agg [.int .i64, .str])]) D4 (by kernel_rfl) (.cons (l := [.list (.agg [.int .i64, .str])]) (m := []) D197 (by kernel_rfl) .nil))))))))) (by kernel_rfl) lt204
theorem lt58 : 58 < Tryz.prog.types.size := of_decide_eq_true (by kernel_rfl)
theorem D58 : Dat Tryz.prog 58 false [.list (.agg [.int .i64, .int .i64, .int .i64, .int .i64, .int .i64, .int .i64, .int .i64, .bool, .list (.agg [.int .i64, .str])])] := .slice (e := 204) (g := true) (l := [.int .i64, .int .i64, .int .i64, .int .i64, .int .i64, .int .i64, .int .i64, .bool, .list (.agg [.int .i64, .str])]) Tryz.underlying58 D204 (by kernel_rfl) (by decide) (of_decide_eq_true (by kernel_rfl)) lt58
theorem lt60 : 60 < Tryz.prog.types.size := of_decide_eq_true (by kernel_rfl)
theorem D60 : Dat Tryz.prog 60 true [.list (.agg [.int .i64, .int .i64, .int .i64, .int .i64, .int .i64, .bool, .list (.agg [.int .i64, .str]), .int .i64, .int .i64, .int .i64, .list (.int .i64), .list (.int .i64), .list (.int .i64)]), .list (.agg [.str, .int .i64]), .list (.agg [.int .i64, .int .i64, .int .i64, .int .i64, .int .i64, .int .i64, .int .i64, .bool, .list (.agg [.int .i64, .str])]), .list (.str)] := .struct Tryz.underlying60 (.cons (l := [.list (.agg [.int .i64, .int .i64, .int .i64, .int .i64, .int .i64, .bool, .list (.agg [.int .i64, .str]), .int .i64, .int .i64, .int .i64, .list (.int .i64), .list (.int .i64), .list (.int .i64)])]) (m := [.list (.agg [.str, .int .i64]), .list (.agg [.int .i64, .int .i64, .int .i64, .int .i64, .int .i64, .int .i64, .int .i64, .bool, .list (.agg [.int .i64, .str])]), .list (.str)]) D56 (by kernel_rfl) (.cons (l := [.list (.agg [.str, .int .i64])]) (m := [.list (.agg [.int .i64, .int .i64, .int .i64, .int .i64, .int .i64, .int .i64, .int .i64, .bool, .list (.agg [.int .i64, .str])]), .list (.str)]) D57 (by kernel_rfl) (.cons (l := [.list (.agg [.int .i64, .int .i64, .int .i64, .int .i64, .int .i64, .int .i64, .int .i64, .bool, .list (.agg [.int .i64, .str])])]) (m := [.list (.str)]) D58 (by kernel_rfl) (.cons (l := [.list (.str)]) (m := []) D24 (by kernel_rfl) .nil)))) (by kernel_rfl) lt60
theorem lt135 : 135 < Tryz.prog.types.size := of_decide_eq_true (by kernel_rfl)
theorem D135 : Dat Tryz.prog 135 true [.int .i64, .int .i64, .int .i64, .list (.str)] := .struct Tryz.underlying135 (.cons (l := [.int .i64]) (m := [.int .i64, .int .i64, .list (.str)]) D3 (by kernel_rfl) (.cons (l := [.int .i64]) (m := [.int .i64, .list (.str)]) D3 (by kernel_rfl) (.cons (l := [.int .i64]) (m := [.list (.str)]) D3 (by kernel_rfl) (.cons (l := [.list (.str)]) (m := []) D24 (by kernel_rfl) .nil)))) (by kernel_rfl) lt135
theorem lt137 : 137 < Tryz.prog.types.size := of_decide_eq_true (by kernel_rfl)
theorem D137 : Dat Tryz.prog 137 true [.int .i64, .str, .str, .int .i64, .int .i64, .int .i64, .list (.str)] := .struct Tryz.underlying137 (.cons (l := [.int .i64]) (m := [.str, .str, .int .i64, .int .i64, .int .i64, .list (.str)]) D3 (by kernel_rfl) (.cons (l := [.str]) (m := [.str, .int .i64, .int .i64, .int .i64, .list (.str)]) D9 (by kernel_rfl) (.cons (l := [.str]) (m := [.int .i64, .int .i64, .int .i64, .list (.str)]) D9 (by kernel_rfl) (.cons (l := [.int .i64, .int .i64, .int .i64, .list (.str)]) (m := []) D135 (by kernel_rfl) .nil)))) (by kernel_rfl) lt137
theorem lt61 : 61 < Tryz.prog.types.size := of_decide_eq_true (by kernel_rfl)
theorem D61 : Dat Tryz.prog 61 false [.list (.agg [.int .i64, .str, .str, .int .i64, .int .i64, .int .i64, .list (.str)])] := .slice (e := 137) (g := true) (l := [.int .i64, .str, .str, .int .i64, .int .i64, .int .i64, .list (.str)]) Tryz.underlying61 D137 (by kernel_rfl) (by decide) (of_decide_eq_true (by kernel_rfl)) lt61
theorem lt63 : 63 < Tryz.prog.types.size := of_decide_eq_true (by kernel_rfl)
theorem D63 : Dat Tryz.prog 63 true [.int .i64, .int .i64, .list (.agg [.int .i64, .int .i64, .int .i64, .int .i64, .int .i64, .bool, .list (.agg [.int .i64, .str]), .int .i64, .int .i64, .int .i64, .list (.int .i64), .list (.int .i64), .list (.int .i64)]), .list (.agg [.str, .int .i64]), .list (.agg [.int .i64, .int .i64, .int .i64, .int .i64, .int .i64, .int .i64, .int .i64, .bool, .list (.agg [.int .i64, .str])]), .list (.str), .list (.agg [.int .i64, .str, .str, .int .i64, .int .i64, .int .i64, .list (.str)])] := .struct Tryz.underlying63 (.cons (l := [.int .i64]) (m := [.int .i64, .list (.agg [.int .i64, .int .i64, .int .i64, .int .i64, .int .i64, .bool, .list (.agg [.int .i64, .str]), .int .i64, .int .i64, .int .i64, .list (.int .i64), .list (.int .i64), .list (.int .i64)]), .list (.agg [.str, .int .i64]), .list (.agg [.int .i64, .int .i64, .int .i64, .int .i64, .int .i64, .int .i64, .int .i64, .bool, .list (.agg [.int .i64, .str])]), .list (.str), .list (.agg [.int .i64, .str, .str, .int .i64, .int .i64, .int .i64, .list (.str)])]) D3 (by kernel_rfl) (.cons (l := [.int .i64]) (m := [.list (.agg [.int .i64, .int .i64, .int .i64, .int .i64, .int .i64, .bool, .list (.agg [.int .i64, .str]), .int .i64, .int .i64, .int .i64, .list (.int .i64), .list (.int .i64), .list (.int .i64)]), .list (.agg [.str, .int .i64]), .list (.agg [.int .i64, .int .i64, .int .i64, .int .i64, .int .i64, .int .i64, .int .i64, .bool, .list (.agg [.int .i64, .str])]), .list (.str), .list (.agg [.int .i64, .str, .str, .int .i64, .int .i64, .int .i64, .list (.str)])]) D3 (by kernel_rfl) (.cons (l := [.list (.agg [.int .i64, .int .i64, .int .i64, .int .i64, .int .i64, .bool, .list (.agg [.int .i64, .str]), .int .i64, .int .i64, .int .i64, .list (.int .i64), .list (.int .i64), .list (.int .i64)]), .list (.agg [.str, .int .i64]), .list (.agg [.int .i64, .int .i64, .int .i64, .int .i64, .int .i64, .int .i64, .int .i64, .bool, .list (.agg [.int .i64, .str])]), .list (.str)]) (m := [.list (.agg [.int .i64, .str, .str, .int .i64, .int .i64, .int .i64, .list (.str)])]) D60 (by kernel_rfl) (.cons (l := [.list (.agg [.int .i64, .str, .str, .int .i64, .int .i64, .int .i64, .list (.str)])]) (m := []) D61 (by kernel_rfl) .nil)))) (by kernel_rfl) lt63
theorem dat_lt : ∀ t g l, Dat Tryz.prog t g l → t < Tryz.prog.types.size := fun _ _ _ h => h.lt
theorem laid_all : laidOutB Tryz.prog = true := by kernel_rfl
theorem rowed_all : mapsRowed Tryz.prog = true := by kernel_rfl
theorem slices_all : ((List.range Tryz.prog.types.size).all fun t => match Tryz.prog.underlying t with | some (.slice e) => decide (0 < Tryz.prog.cellsOf e) | _ => true) = true := by kernel_rfl
theorem own_knob : ownKnob Tryz.prog.godebug = none := by kernel_rfl
end Go.Proofs.YtkofjkjcbljkdaaGreatDoor
end

section
namespace Go.Proofs.YtkofjkjcbljkdaaGreatDoor
variable [LaidG]
open Go.ChangeShapes Go.WideShapes Go.ChangeAt Go.RowKit
set_option linter.unusedVariables false
set_option maxRecDepth 100000
section
variable {H : Type} {enc : TypeId × Value → H} {P : Program} {W W' : World}
theorem laid_mem {name : String} {k : IntKind} {zs : List Int} {g t e n : Nat} (hg : P.globalNamed name = some g) (hty : (P.globals[g]?).map (·.type) = some t) (ht : P.underlying t = some (.array n e)) (he : P.underlying e = some (.int k)) (hce : P.cellsOf e = 1) (hct : P.cellsOf t = n) :
    ∀ {laid : List (String × DataW Unit)} {ps : List MemPlace}, DataW.LaidVars P W laid ps → (name, Lib.tabData k zs) ∈ laid →
      ∃ cs, W.var? P name = some cs ∧ cs.toList = (zs.map fun z => Value.int k z) ∧ ∀ x ∈ MemPlace.row ⟨g, 0, none⟩ cs.size, x ∈ ps
  | [], ps, h, hm => by simp at hm
  | (m, d) :: r, ps, h, hm => by
    obtain ⟨g', t', cs, fuel, p, q, hg', ht', hvar, hd, hr, rfl⟩ := h
    rcases List.mem_cons.1 hm with hm | hm
    · obtain ⟨rfl, rfl⟩ := Prod.mk.inj hm
      obtain rfl := Option.some.inj (hg.symm.trans hg')
      obtain rfl := Option.some.inj (hty.symm.trans ht')
      exact ⟨cs, hvar, Lib.cells_of_tab ht he hce hct hd, fun x hx => by simp [hx]⟩
    · obtain ⟨cs', q1, q2, q3⟩ := laid_mem hg hty ht he hce hct hr hm
      exact ⟨cs', q1, q2, fun x hx => by simp [q3 x hx]⟩
theorem lv_intsZ {k : IntKind} : ∀ {zs : List Int}, (∀ z ∈ zs, inR k z) → Lv W (flatT (.int k) zs.length) (flatP (zs.map (PV.int k))) (zs.map fun z => Value.int k z) []
  | [], _ => .nil
  | z :: zs, h => .int (h z (by simp)) (lv_intsZ (zs := zs) fun x hx => h x (by simp [hx]))
theorem gl_one {name : String} {k : IntKind} {z0 : Int} {zs : List Int} {g t e n : Nat} {laid : List (String × DataW Unit)} (h : laidMet P laid W) (hm : (name, Lib.tabData k (z0 :: zs)) ∈ laid) (hg : P.globalNamed name = some g) (hty : (P.globals[g]?).map (·.type) = some t) (ht : P.underlying t = some (.array n e)) (he : P.underlying e = some (.int k)) (hce : P.cellsOf e = 1) (hct : P.cellsOf t = n)
    (hr : ∀ z ∈ z0 :: zs, inR k z) :
    g ∉ ([] : List Nat) ∧ ∃ c t, W.heap[g]? = some (.cells c t (0, 0)) ∧ flatB (.int k) = true ∧ (∀ e ∈ (z0 :: zs).map (PV.int k), Shp (.int k) e) ∧ Lv W (flatT (.int k) ((z0 :: zs).map (PV.int k)).length) (flatP ((z0 :: zs).map (PV.int k))) c.toList [] := by
  obtain ⟨ps, hL, _, hz⟩ := h
  obtain ⟨cs, q1, q2, q3⟩ := laid_mem hg hty ht he hce hct hL hm
  have hpos : 0 < cs.size := by rw [← Array.length_toList, q2]; simp
  obtain ⟨⟨c, t', hc⟩, _⟩ := hz g 0 (q3 _ (by simp [MemPlace.row]; exact hpos))
  have e : c = cs := by
    unfold World.var? at q1
    rw [hg] at q1
    have q1 : (match W.heap[g]? with | some (.cells cs _ _) => some cs | _ => none) = some cs := q1
    rw [hc] at q1
    exact Option.some.inj q1
  subst e
  refine ⟨by simp, c, t', hc, rfl, fun e he => ?_, ?_⟩
  · obtain ⟨z, hz', rfl⟩ := List.mem_map.1 he
    intro qs h; cases h
  · rw [q2, List.length_map]; exact lv_intsZ hr
theorem lt_of_name {ns : List String} (hall : (ns.all fun n => match (P.globalNamed n).bind fun g => (P.globals[g]?).map (·.type) with | some t => decide (t < P.types.size) | none => true) = true) {n : String} {g t : Nat} (hn : n ∈ ns) (hg : P.globalNamed n = some g) (ht : (P.globals[g]?).map (·.type) = some t) : t < P.types.size := by
  have h := List.all_eq_true.1 hall n hn
  have e : ((P.globalNamed n).bind fun g => (P.globals[g]?).map (·.type)) = some t := by rw [hg]; exact ht
  rw [e] at h
  exact of_decide_eq_true h
theorem var_fr (h : Fr W [] W') {n : String} {cs : Array Value} (hv : W.var? P n = some cs) : W'.var? P n = some cs := by
  unfold World.var? at hv ⊢
  cases hg : P.globalNamed n with
  | none => rw [hg] at hv; cases hv
  | some g =>
    rw [hg] at hv
    show (match W'.heap[g]? with | some (.cells cs _ _) => some cs | _ => none) = _
    have hv : (match W.heap[g]? with | some (.cells cs _ _) => some cs | _ => none) = some cs := hv
    cases hb : W.heap[g]? with
    | none => rw [hb] at hv; cases hv
    | some o =>
      rw [h.block g (Array.getElem?_eq_some_iff.1 hb).1 (by simp)]
      exact hv
theorem weights_pre {y : Nat} : ∀ {ts us : List TypeId} {ds gs : List (DataW H)}, y ∈ DataW.weightsEach P ts ds → y ∈ DataW.weightsEach P (ts ++ us) (ds ++ gs)
  | [], us, ds, gs, h => by cases ds <;> simp [DataW.weightsEach] at h
  | t :: ts, us, [], gs, h => by simp [DataW.weightsEach] at h
  | t :: ts, us, d :: ds, gs, h => by
    simp only [List.cons_append, DataW.weightsEach, List.mem_append] at h ⊢
    exact h.imp id weights_pre
theorem trodVars_len {sp : Nat → Bool} : ∀ {ns : List String} {gs : List (DataW H)} {ps : List MemPlace}, DataW.TrodVars enc P W sp ns gs ps → gs.length = ns.length
  | [], [], _, _ => rfl
  | [], _ :: _, _, h => h.elim
  | _ :: _, [], _, h => h.elim
  | n :: ns, d :: gs, ps, ⟨g, t, cs, fuel, p, q, _, _, _, _, h, _⟩ => by simp [trodVars_len h]
theorem trodVars_fr (K : Kids P (· < P.types.size)) (hsl : ((List.range P.types.size).all fun t => match P.underlying t with | some (.slice e) => decide (0 < P.cellsOf e) | _ => true) = true) (h : Fr W [] W') :
    ∀ {ns : List String} {gs : List (DataW H)} {ps : List MemPlace}, (∀ n ∈ ns, ∀ g t, P.globalNamed n = some g → (P.globals[g]?).map (·.type) = some t → t < P.types.size) → DataW.TrodVars enc P W (fun _ => true) ns gs ps → (∀ x ∈ ps, x.block < W.heap.size) → DataW.TrodVars enc P W' (fun b => decide (b < W.heap.size)) ns gs ps
  | [], [], _, _, h0, _ => h0
  | [], _ :: _, _, _, h0, _ => h0.elim
  | _ :: _, [], _, _, h0, _ => h0.elim
  | n :: ns, d :: gs, ps, hn, ⟨g, t, cs, fuel, p, q, h1, h2, h3, h4, h5, e⟩, hl => by
    subst e
    refine ⟨g, t, cs, fuel, p, q, h1, h2, var_fr h h3, ?_, trodVars_fr K hsl h (fun m hm => hn m (by simp [hm])) h5 fun x hx => hl x (by simp [hx]), rfl⟩
    have h6 := DataW.trod_respare (spare' := fun b => decide (b < W.heap.size)) K (fun t e ht => slices_full_of P hsl t e ht) fuel t cs.toList _ (hn n (by simp) g t h1 h2) h4 (fun x hx => by simpa using hl x (by simp [hx]))
    exact DataW.trod_carry fuel t _ _ h6 fun x hx => sameAt_fr h (hl x (by simp [hx]))
theorem law_postV {fn : Func} {f : FuncId} {s : ChangeSpec} {c : FSpec} {tb : Nat} {base : Nat} {args : Array Value} {ds gs : List (DataW H)} {before : List MemPlace} (hl : laidOutB P = true) (hmr : mapsRowed P = true)
    (hsl : ((List.range P.types.size).all fun t => match P.underlying t with | some (.slice e) => decide (0 < P.cellsOf e) | _ => true) = true)
    (hdt : ∀ t g l, Dat P t g l → t < P.types.size) (hm : Meets P f c) (hG : GlOk W []) (ha : ArgTys P fn.params.toList c.args) (hpar : ∀ t ∈ fn.params.toList, t < P.types.size) (hb : P.underlying tb = some .bool) (hres : fn.resultTypes = #[tb])
    (hv : ∀ n ∈ s.vars, ∀ g t, P.globalNamed n = some g → (P.globals[g]?).map (·.type) = some t → t < P.types.size)
    (hfn : ∀ H ds gs, ds.length = fn.params.size → gs.length = s.vars.length → (s.fn H (ds ++ gs)).results = [.lit (.bool true)] ∧ (s.fn H (ds ++ gs)).args = ds ∧ (s.fn H (ds ++ gs)).vars = gs)
    (hc : c.ret = [.bool] ∧ c.fresh = true ∧ (∀ ps, c.pre ps) ∧ ∀ ps, c.res ps = [.bool true]) (hrd : allRd c.args = true)
    (hval : ∀ (j : Nat) t v, fn.params[j]? = some t → args[j]? = some v → Value.okWide P W .any base t v)
    (hW : DataW.Whole enc P fn.params.toList s.vars false W args.toList ds gs before)
    (hwt : (DataW.weightsEach P (fn.params.toList ++ s.plain.varTypes P) (ds ++ gs)).all (· ≤ reachBytes) = true) :
    Calls P f args W fun e W' => ∃ v, e = .returned v ∧ s.post enc P fn false true false false W args v W' := by
  have hW' := hW
  have hlt := hW.lt
  obtain ⟨p, q, hA, hV, rfl, hfz, _⟩ := hW
  have hdl : ∀ {ts : List TypeId} {vs : List Value} {ds : List (DataW H)} {ps : List MemPlace}, DataW.TrodAll enc P W 0 (fun _ => true) true ts vs ds ps → ds.length = ts.length := by
    intro ts
    induction ts with
    | nil => intro vs ds ps h; cases vs <;> cases ds <;> simp [DataW.TrodAll] at h ⊢
    | cons t ts ih => intro vs ds ps h; cases vs <;> cases ds <;> simp [DataW.TrodAll] at h ⊢; obtain ⟨_, _, _, h2, _⟩ := h; exact ih h2
  have hlen := hdl hA
  have K := kids_rows hl hmr
  obtain ⟨qs, fs, hargs⟩ := args_lv K hdt ha (fun j t v hj hv' => hval j t v (by simpa using hj) (by simpa using hv')) hA (fun y hy => by simpa using List.all_eq_true.1 hwt y (weights_pre hy))
  obtain ⟨c1, c2, c3, c4⟩ := hc
  obtain ⟨r1, r2, r3⟩ := hfn H ds gs (by simpa using hlen) (trodVars_len hV)
  have hcall := hm W qs _ fs fs [] hargs (by simp) (by simp) (c3 qs) hG
  simp only [Array.toArray_toList] at hcall
  refine hcall.mono fun e W' he => ?_
  obtain ⟨rvs, rfl, hFr, hcase⟩ := he
  have hret : ∃ fr, RetVs W' c.ret (c.res qs) rvs fr := by
    rcases hcase with ⟨_, fr, mo, h, _⟩ | ⟨h, _⟩
    · exact ⟨fr, h⟩
    · rw [c2] at h; cases h
  obtain ⟨fr, hret⟩ := hret
  rw [c1, c4] at hret
  have hrv : rvs = [.bool true] := by
    cases hret with
    | cons h1 h2 =>
      cases h2
      obtain ⟨fs', h1, _⟩ := h1
      cases h1 with
      | bool h => cases h; rfl
  subst hrv
  have hsame : ∀ sp : Nat → Bool, (∀ x ∈ p, sp x.block = true) → DataW.TrodAll enc P W' 0 sp true fn.params.toList args.toList ds p := fun sp hsp =>
    trodAll_fr hFr (hA.respare (T := (· < P.types.size)) K (fun t e ht => slices_full_of P hsl t e ht) hpar hsp) (fun x hx => hlt x (by simp [hx]))
  refine ⟨_, rfl, ds, gs, p ++ q, [], p, q, hW', ?_, ?_, ?_, keptBut_fr hFr _, fun h => by cases h⟩
  · simp only [r1, hres]
    exact trodAll_cons_mk (shut_bool hb _) trodAll_mk0
  · simp only [r2]
    exact hsame _ fun x hx => by simpa using hlt x (by simp [hx])
  · simp only [r3]
    exact trodVars_fr K hsl hFr hv hV fun x hx => hlt x (by simp [hx])
end
end Go.Proofs.YtkofjkjcbljkdaaGreatDoor
end

