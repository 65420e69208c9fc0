/-
  Part 8 of the proof of FnExactClientAccept: a verification-condition generator over the program and the contracts of its functions, in the order of their use.
  Conditions: none.
-/
import Derived.Test.YtolgjekokdimoaaGreatDoorM7
import Derived.OpenShut
import Derived.SizedLaws
import Derived.ReadAgain
import Derived.ProofKit
import Derived.Lib.LaidTab
set_option linter.unusedVariables false
set_option linter.unusedSimpArgs false
set_option linter.unusedSectionVars false

section
namespace Go.Proofs.YtolgjekokdimoaaGreatDoor
variable [LaidG]
variable [LaidN 0] [LaidN 1]
variable [LaidN 5]
set_option maxRecDepth 100000
set_option linter.unusedSimpArgs false

def headL (c : Int) (t : List UInt8) (n : Int) : List UInt8 := [116, 111, 107, 101, 110, 32] ++ (decS c ++ ([32] ++ (t ++ ([32] ++ decS n))))
theorem headL_len {c n : Int} {t : List UInt8} (hc : 0 ≤ c) (hc2 : c ≤ 200) (ht : t.length ≤ 12) (hn : -1 ≤ n) (hn2 : n ≤ 60) : (headL c t n).length ≤ 26 := by
  have l1 := decS_len (n := c) (by omega) (by omega)
  have l2 := decS_len (n := n) (by omega) (by omega)
  simp only [headL, List.length_append, List.length_cons, List.length_nil]
  omega
def toldP (c : Int) (t : List UInt8) (n : Int) : Prop := 0 ≤ c ∧ c ≤ 200 ∧ t.length ≤ 12 ∧ -1 ≤ n ∧ n ≤ 60
def c_tokenHead : FSpec := ⟨[(.rd, .int .i64), (.rd, .str), (.rd, .int .i64)], [.str], true, fun ps => toldP (nth ps 0).I (nth ps 1).S (nth ps 2).I, fun ps => [.str (headL (nth ps 0).I (nth ps 1).S (nth ps 2).I)], fun _ => []⟩
theorem k_tokenHead : FnOk Tryz.prog 62 c_tokenHead := by
  refine fn_mk [0, 1, 2, 6] [.tmp 6] (env_cons (cs := []) k_Itoa (env_nil (tyTab_ok []))) mixed Tryz.func62 rfl (by decide) rfl (by decide) rfl ?_
  intro ps hT hpre W hW
  simp only [c_tokenHead, TyA, Ty, Tys] at hT hpre
  obtain ⟨_, _, rfl, ⟨c, rfl, hc⟩, _, _, rfl, ⟨t, rfl, ht⟩, _, _, rfl, ⟨n, rfl, hn⟩, rfl⟩ := hT
  simp only [nth_zero, nth_succ, pv_I, pv_S, toldP] at hpre
  refine hW.vc [] _ _ ?_
  simp [-List.getD_eq_getElem?_getD, c_tokenHead, c_Itoa]
  obtain ⟨q1, q2, q3, q4, q5⟩ := hpre
  have l1 := decS_len (n := c) (by omega) (by omega)
  have l2 := decS_len (n := n) (by omega) (by omega)
  exact ⟨by omega, by omega, by omega, by omega, by omega, by omega, by omega, rfl⟩
def c_l12Plain : FSpec := c_tokenHead
theorem k_l12Plain : FnOk Tryz.prog 103 c_l12Plain := by
  refine fn_mk [0, 1, 2, 6] [.tmp 6] (env_cons (cs := []) k_l00Digits (env_nil (tyTab_ok []))) mixed Tryz.func103 rfl (by decide) rfl (by decide) rfl ?_
  intro ps hT hpre W hW
  simp only [c_l12Plain, TyA, Ty, Tys] at hT hpre
  simp only [c_tokenHead, TyA, Ty, Tys] at hT hpre
  obtain ⟨_, _, rfl, ⟨c, rfl, hc⟩, _, _, rfl, ⟨t, rfl, ht⟩, _, _, rfl, ⟨n, rfl, hn⟩, rfl⟩ := hT
  simp only [nth_zero, nth_succ, pv_I, pv_S, toldP] at hpre
  refine hW.vc [] _ _ ?_
  simp [-List.getD_eq_getElem?_getD, c_l12Plain, c_l00Digits, c_tokenHead]
  obtain ⟨q1, q2, q3, q4, q5⟩ := hpre
  have l1 := decS_len (n := c) (by omega) (by omega)
  have l2 := decS_len (n := n) (by omega) (by omega)
  exact ⟨by omega, by omega, by omega, by omega, by omega, by omega, by omega, rfl⟩
def c_l12Mark : FSpec := ⟨[(.rd, .str), (.rd, .int .i64), (.rd, .str), (.rd, .int .i64)], [.str], true, fun ps => (nth ps 0).S.length ≤ 1000000 ∧ toldP (nth ps 1).I (nth ps 2).S (nth ps 3).I, fun ps => [.str (markL (nth ps 0).S (headL (nth ps 1).I (nth ps 2).S (nth ps 3).I))], fun _ => []⟩
theorem k_l12Mark : FnOk Tryz.prog 96 c_l12Mark := by
  refine fn_mk [0, 1, 2, 3, 8] [.tmp 8] (env_cons (cs := []) k_l01Hex (env_cons (cs := []) k_l02Hmac (env_cons (cs := []) k_l12Plain (env_nil (tyTab_ok []))))) mixed Tryz.func96 rfl (by decide) rfl (by decide) rfl ?_
  intro ps hT hpre W hW
  simp only [c_l12Mark, TyA, Ty, Tys] at hT hpre
  obtain ⟨_, _, rfl, ⟨key, rfl, hkey⟩, _, _, rfl, ⟨c, rfl, hc⟩, _, _, rfl, ⟨t, rfl, ht⟩, _, _, rfl, ⟨n, rfl, hn⟩, rfl⟩ := hT
  simp only [nth_zero, nth_succ, pv_I, pv_S] at hpre
  refine hW.vc [] _ _ ?_
  simp [-List.getD_eq_getElem?_getD, c_l12Mark, c_l12Plain, c_l02Hmac, c_l01Hex, c_tokenHead, c_hmac, c_hashText, c_tokenHead, c_hmac, c_hashText]
  obtain ⟨q0, hp⟩ := hpre
  have hp' := hp
  obtain ⟨q1, q2, q3, q4, q5⟩ := hp'
  have l1 := headL_len q1 q2 q3 q4 q5
  exact ⟨hp, ⟨q0, by omega⟩, by rw [hmacL_len]; omega, by rw [hexB_len, hmacL_len]; omega, rfl⟩
def tokenL (key : List UInt8) (c : Int) (t : List UInt8) (n : Int) : List UInt8 := headL c t n ++ ([32] ++ markL key (headL c t n))
def c_tokenOf : FSpec := ⟨[(.rd, .str), (.rd, .int .i64), (.rd, .str), (.rd, .int .i64)], [.str], true, fun ps => (nth ps 0).S.length ≤ 1000000 ∧ toldP (nth ps 1).I (nth ps 2).S (nth ps 3).I, fun ps => [.str (tokenL (nth ps 0).S (nth ps 1).I (nth ps 2).S (nth ps 3).I)], fun _ => []⟩
theorem k_tokenOf : FnOk Tryz.prog 58 c_tokenOf := by
  refine fn_mk [0, 1, 2, 3, 8, 9] [.tmp 8] (env_cons (cs := []) k_markOf (env_cons (cs := []) k_tokenHead (env_nil (tyTab_ok [])))) mixed Tryz.func58 rfl (by decide) rfl (by decide) rfl ?_
  intro ps hT hpre W hW
  simp only [c_tokenOf, TyA, Ty, Tys] at hT hpre
  obtain ⟨_, _, rfl, ⟨key, rfl, hkey⟩, _, _, rfl, ⟨c, rfl, hc⟩, _, _, rfl, ⟨t, rfl, ht⟩, _, _, rfl, ⟨n, rfl, hn⟩, rfl⟩ := hT
  simp only [nth_zero, nth_succ, pv_I, pv_S] at hpre
  refine hW.vc [] _ _ ?_
  simp [-List.getD_eq_getElem?_getD, c_tokenOf, c_tokenHead, c_markOf]
  obtain ⟨q0, hp⟩ := hpre
  have hp' := hp
  obtain ⟨q1, q2, q3, q4, q5⟩ := hp'
  have l1 := headL_len q1 q2 q3 q4 q5
  exact ⟨hp, by omega, ⟨q0, by omega⟩, by rw [markL_len]; omega, rfl⟩
def c_l12Issue : FSpec := c_tokenOf
theorem k_l12Issue : FnOk Tryz.prog 60 c_l12Issue := by
  refine fn_mk [0, 1, 2, 3, 8] [.tmp 8] (env_cons (cs := []) k_l12Mark (env_cons (cs := []) k_l12Plain (env_nil (tyTab_ok [])))) mixed Tryz.func60 rfl (by decide) rfl (by decide) rfl ?_
  intro ps hT hpre W hW
  simp only [c_l12Issue, TyA, Ty, Tys] at hT hpre
  simp only [c_tokenOf, TyA, Ty, Tys] at hT hpre
  obtain ⟨_, _, rfl, ⟨key, rfl, hkey⟩, _, _, rfl, ⟨c, rfl, hc⟩, _, _, rfl, ⟨t, rfl, ht⟩, _, _, rfl, ⟨n, rfl, hn⟩, rfl⟩ := hT
  simp only [nth_zero, nth_succ, pv_I, pv_S] at hpre
  refine hW.vc [] _ _ ?_
  simp [-List.getD_eq_getElem?_getD, c_l12Issue, c_l12Plain, c_l12Mark, c_tokenOf, c_tokenHead, c_tokenHead]
  obtain ⟨q0, hp⟩ := hpre
  have hp' := hp
  obtain ⟨q1, q2, q3, q4, q5⟩ := hp'
  have l1 := headL_len q1 q2 q3 q4 q5
  exact ⟨hp, by omega, ⟨q0, hp⟩, by rw [markL_len]; omega, rfl⟩

end Go.Proofs.YtolgjekokdimoaaGreatDoor
end

section
namespace Go.Proofs.YtolgjekokdimoaaGreatDoor
variable [LaidG]
variable [LaidN 0] [LaidN 1]
variable [LaidN 5]
set_option maxRecDepth 100000
set_option linter.unusedSimpArgs false

theorem toldB_P {c n : Int} {t : List UInt8} (h : toldB c t n = true) : toldP c t n := by
  simp only [toldB, wordB, inB, Bool.and_eq_true, decide_eq_true_eq] at h
  unfold toldP
  omega
def longB (a b : List UInt8) : Bool := longN a.length || longN b.length
/-- What issuing and marking answer: a text and a code. -/
def markV (key : List UInt8) (c : Int) (t : List UInt8) (n : Int) : List UInt8 × Int :=
  if longB key t = true then ([], 2) else if toldB c t n = true then (markL key (headL c t n), 0) else ([], 1)
def issueV (key : List UInt8) (c : Int) (t : List UInt8) (n : Int) : List UInt8 × Int :=
  if longB key t = true then ([], 2) else if toldB c t n = true then (tokenL key c t n, 0) else ([], 1)
def c_TokenMark : FSpec := ⟨[(.rd, .str), (.rd, .int .i64), (.rd, .str), (.rd, .int .i64)], [.str, .int .i64], true, fun _ => True, fun ps => [.str (markV (nth ps 0).S (nth ps 1).I (nth ps 2).S (nth ps 3).I).1, .int .i64 (markV (nth ps 0).S (nth ps 1).I (nth ps 2).S (nth ps 3).I).2], fun _ => []⟩
theorem k_TokenMark : FnOk Tryz.prog 24 c_TokenMark := by
  refine fn_mk [0, 1, 2, 3, 8, 9] [.tmp 8, .tmp 9] (env_cons (cs := []) k_markOf (env_cons (cs := []) k_tokenHead (env_cons (cs := []) k_isTold (env_cons (cs := []) k_isLong (env_nil (tyTab_ok [])))))) mixed Tryz.func24 rfl (by decide) rfl (by decide) rfl ?_
  intro ps hT hpre W hW
  simp only [c_TokenMark, TyA, Ty, Tys] at hT hpre
  obtain ⟨_, _, rfl, ⟨key, rfl, hkey⟩, _, _, rfl, ⟨c, rfl, hc⟩, _, _, rfl, ⟨t, rfl, ht⟩, _, _, rfl, ⟨n, rfl, hn⟩, rfl⟩ := hT
  refine hW.vc [] _ _ ?_
  simp [-List.getD_eq_getElem?_getD, c_TokenMark, c_isLong, c_isTold, c_tokenHead, c_markOf]
  refine fun _ _ => ⟨by decide, fun h => ?_, fun h1 h2 => ⟨fun h3 => ?_, fun h3 => ?_⟩⟩
  · have hb : longB key t = true := by rcases h with h | h <;> simp [longB, h]
    simp [markV, hb]
  · have hb : longB key t = false := by simp [longB, h1, h2]
    simp [markV, hb, h3]
  · have hb : longB key t = false := by simp [longB, h1, h2]
    have hp := toldB_P h3
    have hp' := hp
    obtain ⟨q1, q2, q3, q4, q5⟩ := hp'
    have l1 := headL_len q1 q2 q3 q4 q5
    have hk : key.length ≤ 65536 := by simp [longN] at h1; omega
    exact ⟨hp, ⟨by omega, by omega⟩, by simp [markV, hb, h3]⟩
def c_sTokenMark : FSpec := c_TokenMark
def c_IssueToken : FSpec := ⟨[(.rd, .str), (.rd, .int .i64), (.rd, .str), (.rd, .int .i64)], [.str, .int .i64], true, fun _ => True, fun ps => [.str (issueV (nth ps 0).S (nth ps 1).I (nth ps 2).S (nth ps 3).I).1, .int .i64 (issueV (nth ps 0).S (nth ps 1).I (nth ps 2).S (nth ps 3).I).2], fun _ => []⟩
theorem k_IssueToken : FnOk Tryz.prog 22 c_IssueToken := by
  refine fn_mk [0, 1, 2, 3, 8, 9] [.tmp 8, .tmp 9] (env_cons (cs := []) k_tokenOf (env_cons (cs := []) k_isTold (env_cons (cs := []) k_isLong (env_nil (tyTab_ok []))))) mixed Tryz.func22 rfl (by decide) rfl (by decide) rfl ?_
  intro ps hT hpre W hW
  simp only [c_IssueToken, TyA, Ty, Tys] at hT hpre
  obtain ⟨_, _, rfl, ⟨key, rfl, hkey⟩, _, _, rfl, ⟨c, rfl, hc⟩, _, _, rfl, ⟨t, rfl, ht⟩, _, _, rfl, ⟨n, rfl, hn⟩, rfl⟩ := hT
  refine hW.vc [] _ _ ?_
  simp [-List.getD_eq_getElem?_getD, c_IssueToken, c_isLong, c_isTold, c_tokenOf]
  refine fun _ _ => ⟨by decide, fun h => ?_, fun h1 h2 => ⟨fun h3 => ?_, fun h3 => ?_⟩⟩
  · have hb : longB key t = true := by rcases h with h | h <;> simp [longB, h]
    simp [issueV, hb]
  · have hb : longB key t = false := by simp [longB, h1, h2]
    simp [issueV, hb, h3]
  · have hb : longB key t = false := by simp [longB, h1, h2]
    have hp := toldB_P h3
    have hp' := hp
    obtain ⟨q1, q2, q3, q4, q5⟩ := hp'
    have l1 := headL_len q1 q2 q3 q4 q5
    have hk : key.length ≤ 65536 := by simp [longN] at h1; omega
    exact ⟨⟨by omega, hp⟩, by simp [issueV, hb, h3]⟩
def c_sIssueToken : FSpec := c_IssueToken
theorem k_sIssueToken : FnOk Tryz.prog 23 c_sIssueToken := by
  refine fn_mk [0, 1, 2, 3, 8, 9] [.tmp 8, .tmp 9] (env_cons (cs := []) k_l12Issue (env_cons (cs := []) k_l12Ask (env_nil (tyTab_ok [])))) mixed Tryz.func23 rfl (by decide) rfl (by decide) rfl ?_
  intro ps hT hpre W hW
  simp only [c_sIssueToken, TyA, Ty, Tys] at hT hpre
  simp only [c_IssueToken, TyA, Ty, Tys] at hT
  obtain ⟨_, _, rfl, ⟨key, rfl, hkey⟩, _, _, rfl, ⟨c, rfl, hc⟩, _, _, rfl, ⟨t, rfl, ht⟩, _, _, rfl, ⟨n, rfl, hn⟩, rfl⟩ := hT
  refine hW.vc [] _ _ ?_
  simp [-List.getD_eq_getElem?_getD, c_sIssueToken, c_l12Ask, c_l12Issue, c_IssueToken, c_isTold, c_tokenOf, c_isTold, c_tokenOf]
  refine fun _ _ => ⟨fun h => ?_, fun h1 h2 => ⟨fun h3 => ?_, fun h3 => ?_⟩⟩
  · have hb : longB key t = true := by simp [longB, longN]; omega
    simp [issueV, hb]
  · have hb : longB key t = false := by simp [longB, longN]; omega
    simp [issueV, hb, h3]
  · have hb : longB key t = false := by simp [longB, longN]; omega
    have hp := toldB_P h3
    exact ⟨⟨by omega, hp⟩, by simp [issueV, hb, h3]⟩

def c_exTokenMark : FSpec := ⟨[(.rd, .str), (.rd, .int .i64), (.rd, .str), (.rd, .int .i64)], [.bool], true, fun _ => True, fun _ => [.bool true], fun _ => []⟩
def c_exIssueToken : FSpec := c_exTokenMark
end Go.Proofs.YtolgjekokdimoaaGreatDoor
end

section
namespace Go.Proofs.YtolgjekokdimoaaGreatDoor
variable [LaidG]
set_option maxRecDepth 100000
set_option linter.unusedSimpArgs false

theorem szStr_len {es : List PV} {l : Int} (h : 0 ≤ l) (h1 : 0 ≤ szStr es l) : (es.length : Int) ≤ l := (szStr_le h).2.2 h1
theorem eqS_refl (es : List PV) : eqL (fun x y => x.S == y.S) es es = true := eqL_refl fun _ => by simp

theorem fullOf_len (n w h : Int) (es : List PV) : (fullOf n w h es).1.r.length ≤ es.length := by
  unfold fullOf
  split
  · simp [VW.no]
  · split
    · simp [VW.no]
    · split
      · simp [VW.no]
      · simp [fullGo_len]

def c_exFullView : FSpec := ⟨[(.rd, .int .i64), (.rd, .int .i64), (.rd, .int .i64), (.rd, .list .str)], [.bool], true, fun _ => True, fun _ => [.bool true], fun _ => []⟩
/-- The rows that differ. -/
def diffGo (i : Nat) : List PV → List PV → List PV
  | x :: xs, y :: ys => cond (x.S == y.S) (diffGo (i + 1) xs ys) (.agg [.int .i64 i, .str y.S] :: diffGo (i + 1) xs ys)
  | _, _ => []
theorem diffGo_len : ∀ (xs ys : List PV) (i : Nat), (diffGo i xs ys).length ≤ ys.length
  | [], ys, i => by simp [diffGo]
  | x :: xs, [], i => by simp [diffGo]
  | x :: xs, y :: ys, i => by
    have := diffGo_len xs ys (i + 1)
    simp only [diffGo]
    cases x.S == y.S
    · simp; omega
    · simp; omega
theorem diffGo_take : ∀ (xs ys : List PV) (i k : Nat), k < xs.length → k < ys.length → diffGo i (xs.take (k + 1)) (ys.take (k + 1)) = diffGo i (xs.take k) (ys.take k) ++ (cond ((nth xs k).S == (nth ys k).S) [] [.agg [.int .i64 (i + k : Nat), .str (nth ys k).S]])
  | [], _, _, _, h, _ => by simp at h
  | _ :: _, [], _, _, _, h => by simp at h
  | x :: xs, y :: ys, i, 0, _, _ => by
    simp only [List.take_succ_cons, List.take_zero, diffGo, nth_zero, List.nil_append, Nat.add_zero]
  | x :: xs, y :: ys, i, k + 1, h1, h2 => by
    have := diffGo_take xs ys (i + 1) k (by simpa using h1) (by simpa using h2)
    simp only [List.take_succ_cons, diffGo, nth_succ] at this ⊢
    rw [this, show i + 1 + k = i + (k + 1) by omega]
    cases x.S == y.S
    · rfl
    · rfl
theorem diffGo_eq {xs ys : List PV} {i k : Nat} (h1 : k < xs.length) (h2 : k < ys.length) (h : (nth xs k).S = (nth ys k).S) : diffGo i (xs.take (k + 1)) (ys.take (k + 1)) = diffGo i (xs.take k) (ys.take k) := by
  rw [diffGo_take _ _ _ _ h1 h2, h, beq_self_eq_true, cond_true, List.append_nil]
theorem diffGo_ne {xs ys : List PV} {k : Nat} (h1 : k < xs.length) (h2 : k < ys.length) (h : ¬ (nth xs k).S = (nth ys k).S) : diffGo 0 (xs.take (k + 1)) (ys.take (k + 1)) = diffGo 0 (xs.take k) (ys.take k) ++ [.agg [.int .i64 k, .str (nth ys k).S]] := by
  rw [diffGo_take _ _ _ _ h1 h2, beq_false_of_ne h, cond_false, Nat.zero_add]

def c_diffView : FSpec := ⟨[(.rd, .int .i64), (.rd, .int .i64), (.rd, .int .i64), (.rd, .int .i64), (.rd, .list .str), (.rd, .list .str)], [.agg [.int .i64, .int .i64, .bool, .int .i64, .int .i64, .list (.agg [.int .i64, .str])]], true, fun ps => (nth ps 4).L.length = (nth ps 5).L.length ∧ (nth ps 5).L.length ≤ 1048576,
  fun ps => [.agg [.int .i64 (nth ps 1).I, .int .i64 (nth ps 0).I, .bool false, .int .i64 (nth ps 2).I, .int .i64 (nth ps 3).I, .list (diffGo 0 (nth ps 4).L (nth ps 5).L)]], fun _ => []⟩
theorem k_diffView : FnOk Tryz.prog 69 c_diffView := by
  refine fn_mk [0, 1, 2, 3, 4, 5, 12, 13, 14, 15, 21, 22, 23] [.cell 12 40] (env_nil (tyTab_ok [])) mixed Tryz.func69 rfl (by decide) rfl (by decide) rfl ?_
  intro ps hT hpre W hW
  simp only [c_diffView, TyA, Ty, Tys] at hT hpre
  obtain ⟨_, _, rfl, ⟨f, rfl, hf⟩, _, _, rfl, ⟨n, rfl, hn⟩, _, _, rfl, ⟨w, rfl, hw⟩, _, _, rfl, ⟨h, rfl, hh⟩, _, _, rfl, ⟨os, rfl, hos, tos⟩, _, _, rfl, ⟨es, rfl, hes, tes⟩, rfl⟩ := hT
  simp only [nth_zero, nth_succ, pv_L] at hpre
  obtain ⟨hp1, hp2⟩ := hpre
  refine hW.vc [] _ _ ?_
  simp [-List.getD_eq_getElem?_getD, c_diffView]
  refine fun h1 => hW.loopS _ _ _ [.bx 13 [.int .i64, .int .i64, .bool, .int .i64, .int .i64, .list (.agg [.int .i64, .str])], .sl 23 .dp (.int .i64)] (fun ys => ∃ (i : Nat), ys = [.agg [.int .i64 n, .int .i64 f, .bool false, .int .i64 w, .int .i64 h, .list (diffGo 0 (os.take i) (es.take i))], .int .i64 i] ∧ i ≤ es.length) (fun ys => es.length - (nth ys 1).I.toNat) ?_ ?_
  · simp [-List.getD_eq_getElem?_getD, c_diffView]
    exact ⟨0, ⟨by simp [diffGo], rfl⟩, by simp⟩
  · rintro ys ⟨i, rfl, g1⟩
    refine hW.vc [] _ _ ?_
    simp [-List.getD_eq_getElem?_getD, c_diffView]
    have hdl := diffGo_len (os.take i) (es.take i) 0
    rw [List.length_take] at hdl
    rw [wrap64 (n := (i : Int) + 1) (by omega)]
    refine ⟨fun g2 => ⟨g2, fun _ => ⟨by omega, fun _ => ⟨fun g3 => ⟨by omega, fun _ => ⟨⟨i + 1, ⟨?_, by omega⟩, by omega⟩, by omega⟩⟩, fun g3 => ⟨⟨i + 1, ⟨?_, by omega⟩, by omega⟩, by omega⟩⟩⟩⟩, fun g2 => by rw [List.take_of_length_le g2, List.take_of_length_le (by omega)]⟩
    · rw [diffGo_ne (by omega) (by omega) (fun h => g3 h.symm)]
    · rw [diffGo_eq (by omega) (by omega) g3.symm]

def diffOf (f n w h : Int) (os es : List PV) : VW × Int :=
  if 4096 < (os.length : Int) ∨ 4096 < (es.length : Int) then (VW.no, 2) else if (inB n 0 60 = false ∨ sizeB w h = false) ∨ inB f 0 (n - 1) = false then (VW.no, 4) else if rowsB os w h = false ∨ rowsB es w h = false then (VW.no, 1) else (⟨n, f, false, w, h, diffGo 0 os es⟩, 0)
theorem diff_a {f n w h : Int} {os es : List PV} (h1 : 4096 < (os.length : Int) ∨ 4096 < (es.length : Int)) : diffOf f n w h os es = (VW.no, 2) := if_pos h1
theorem diff_b {f n w h : Int} {os es : List PV} (h1 : (os.length : Int) ≤ 4096) (h2 : (es.length : Int) ≤ 4096) (h3 : (inB n 0 60 = false ∨ sizeB w h = false) ∨ inB f 0 (n - 1) = false) : diffOf f n w h os es = (VW.no, 4) := by
  rw [diffOf, if_neg (by omega), if_pos h3]
theorem diff_c {f n w h : Int} {os es : List PV} (h1 : (os.length : Int) ≤ 4096) (h2 : (es.length : Int) ≤ 4096) (h3 : inB n 0 60 = true) (h4 : sizeB w h = true) (h5 : inB f 0 (n - 1) = true) (h6 : rowsB os w h = false ∨ rowsB es w h = false) : diffOf f n w h os es = (VW.no, 1) := by
  rw [diffOf, if_neg (by omega), if_neg (by simp [h3, h4, h5]), if_pos h6]
theorem diff_d {f n w h : Int} {os es : List PV} (h1 : (os.length : Int) ≤ 4096) (h2 : (es.length : Int) ≤ 4096) (h3 : inB n 0 60 = true) (h4 : sizeB w h = true) (h5 : inB f 0 (n - 1) = true) (h6 : rowsB os w h = true) (h7 : rowsB es w h = true) : diffOf f n w h os es = (⟨n, f, false, w, h, diffGo 0 os es⟩, 0) := by
  rw [diffOf, if_neg (by omega), if_neg (by simp [h3, h4, h5]), if_neg (by simp [h6, h7])]

def c_iDiffView : FSpec := ⟨[(.rd, .int .i64), (.rd, .int .i64), (.rd, .int .i64), (.rd, .int .i64), (.rd, .list .str), (.rd, .list .str)], [.agg [.int .i64, .int .i64, .bool, .int .i64, .int .i64, .list (.agg [.int .i64, .str])], .int .i64], true, fun _ => True,
  fun ps => [(diffOf (nth ps 0).I (nth ps 1).I (nth ps 2).I (nth ps 3).I (nth ps 4).L (nth ps 5).L).1.pv, .int .i64 (diffOf (nth ps 0).I (nth ps 1).I (nth ps 2).I (nth ps 3).I (nth ps 4).L (nth ps 5).L).2], fun _ => []⟩
theorem k_iDiffView : FnOk Tryz.prog 27 c_iDiffView := by
  refine fn_mk [0, 1, 2, 3, 4, 5, 12, 13] [.cell 12 40, .tmp 13] (env_cons (cs := []) k_diffView (env_cons (cs := []) k_areRows (env_cons (cs := []) k_within (env_cons (cs := []) k_isSize (env_cons (cs := []) k_isNumber (env_nil (tyTab_ok []))))))) mixed Tryz.func27 rfl (by decide) rfl (by decide) rfl ?_
  intro ps hT hpre W hW
  simp only [c_iDiffView, TyA, Ty, Tys] at hT hpre
  obtain ⟨_, _, rfl, ⟨f, rfl, hf⟩, _, _, rfl, ⟨n, rfl, hn⟩, _, _, rfl, ⟨w, rfl, hw⟩, _, _, rfl, ⟨h, rfl, hh⟩, _, _, rfl, ⟨os, rfl, hos, tos⟩, _, _, rfl, ⟨es, rfl, hes, tes⟩, rfl⟩ := hT
  refine hW.vc [] _ _ ?_
  simp [-List.getD_eq_getElem?_getD, c_iDiffView, c_isNumber, c_isSize, c_within, c_areRows, c_diffView, VW.pv]
  have hn0 : inB n 0 60 = true → IntKind.i64.wrap (n - 1) = n - 1 := fun h => wrap64 (by simp [inB] at h; omega)
  refine fun _ _ => ⟨fun h1 => by rw [diff_a h1]; simp [VW.no], fun h1 h2 => ⟨fun h3 => ?_, fun h3 h4 h5 => ⟨size_wOk h4, fun _ => size_wOk h4, fun h6 => ?_, fun h6 h7 => ⟨⟨by have := rowsB_len' h6; have := rowsB_len' h7; omega, by omega⟩, ?_⟩⟩⟩⟩
  · rw [diff_b h1 h2 (by
      by_cases h0 : inB n 0 60 = true
      · rwa [hn0 h0] at h3
      · exact .inl (.inl (by simpa using h0)))]; simp [VW.no]
  · rw [hn0 h3] at h5
    rw [diff_c h1 h2 h3 h4 h5 h6]; simp [VW.no]
  · rw [hn0 h3] at h5
    rw [diff_d h1 h2 h3 h4 h5 h6 h7]; simp
def c_sDiffView : FSpec := c_iDiffView
theorem k_sDiffView : FnOk Tryz.prog 28 c_sDiffView := by
  refine fn_mk [0, 1, 2, 3, 4, 5, 12, 13, 14, 15] [.cell 12 40, .tmp 13] (env_cons (cs := []) k_l11Rows (env_cons (cs := []) k_l04Size (env_cons (cs := []) k_l01In (env_nil (tyTab_ok []))))) mixed Tryz.func28 rfl (by decide) rfl (by decide) rfl ?_
  intro ps hT hpre W hW
  simp only [c_sDiffView, TyA, Ty, Tys] at hT hpre
  simp only [c_iDiffView, TyA, Ty, Tys] at hT hpre
  obtain ⟨_, _, rfl, ⟨f, rfl, hf⟩, _, _, rfl, ⟨n, rfl, hn⟩, _, _, rfl, ⟨w, rfl, hw⟩, _, _, rfl, ⟨h, rfl, hh⟩, _, _, rfl, ⟨os, rfl, hos, tos⟩, _, _, rfl, ⟨es, rfl, hes, tes⟩, rfl⟩ := hT
  refine hW.vc [(11, [], .take 0 <| .take 1 <| .take 2 <| .take 3 <| .take 4 <| .take 5 <| .take 6 <| .take 7 <| .take 8 <| .done), (12, [9, 11], .take 0 <| .take 1 <| .take 2 <| .take 3 <| .take 4 <| .take 5 <| .take 6 <| .take 7 <| .alt 8 (.alt 9 (.take 10 <| .alt 11 (.done) .stop) .stop) .stop)] _ _ ?_
  simp [-List.getD_eq_getElem?_getD, c_sDiffView, c_l01In, c_l04Size, c_l11Rows, c_iDiffView, c_within, c_isSize, c_within, c_iDiffView, VW.pv]
  have hfn : inB n 0 60 = true → (inB f 0 60 = true ∧ f < n ↔ inB f 0 (n - 1) = true) := by intro h; simp [inB] at h ⊢; omega
  refine fun _ _ => ⟨fun h1 => by rw [diff_a h1]; simp [VW.no], fun h1 h2 => ⟨fun h3 => ?_, fun g1 h3 g2 h4 => ?_⟩⟩
  · rw [diff_b h1 h2 (by
      rcases h3 with ((h3 | h3) | h3) | h3
      · by_cases h0 : inB n 0 60 = true
        · exact .inr (by cases h5 : inB f 0 (n - 1) with | false => rfl | true => have := ((hfn h0).2 h5).1; rw [h3] at this; cases this)
        · exact .inl (.inl (by simpa using h0))
      · exact .inl (.inl h3)
      · by_cases h0 : inB n 0 60 = true
        · exact .inr (by cases h5 : inB f 0 (n - 1) with | false => rfl | true => have := ((hfn h0).2 h5).2; omega)
        · exact .inl (.inl (by simpa using h0))
      · exact .inl (.inr h3))]; simp [VW.no]
  have h5 := (hfn h3).1 ⟨g1, g2⟩
  refine ⟨size_wOk h4, fun _ => size_wOk h4, fun h6 => ?_, fun h6 h7 => ?_⟩
  · rw [diff_c h1 h2 h3 h4 h5 h6]; simp [VW.no]
  have hd := diff_d h1 h2 h3 h4 h5 h6 h7
  have hl6 := rowsB_len' h6
  have hl7 := rowsB_len' h7
  refine hW.loopS _ _ _ [.bx 14 [.int .i64, .int .i64, .bool, .int .i64, .int .i64, .list (.agg [.int .i64, .str])], .sl 15 .dp (.int .i64)] (fun ys => ∃ (i : Nat), ys = [.agg [.int .i64 n, .int .i64 f, .bool false, .int .i64 w, .int .i64 h, .list (diffGo 0 (os.take i) (es.take i))], .int .i64 i] ∧ i ≤ es.length) (fun ys => es.length - (nth ys 1).I.toNat) ?_ ?_
  · simp [-List.getD_eq_getElem?_getD, c_sDiffView, c_l01In, c_l04Size, c_l11Rows, c_iDiffView, c_within, c_isSize]
    exact ⟨0, ⟨by simp [diffGo], rfl⟩, by simp⟩
  · rintro ys ⟨i, rfl, k1⟩
    refine hW.vc [(11, [], .take 0 <| .take 1 <| .take 2 <| .take 3 <| .take 4 <| .take 5 <| .take 6 <| .take 7 <| .take 8 <| .done), (12, [9, 11], .take 0 <| .take 1 <| .take 2 <| .take 3 <| .take 4 <| .take 5 <| .take 6 <| .take 7 <| .alt 8 (.alt 9 (.take 10 <| .alt 11 (.done) .stop) .stop) .stop)] _ _ ?_
    simp [-List.getD_eq_getElem?_getD, c_sDiffView, c_l01In, c_l04Size, c_l11Rows, c_iDiffView, c_within, c_isSize, c_iDiffView, VW.pv]
    have hdl := diffGo_len (os.take i) (es.take i) 0
    rw [List.length_take] at hdl
    rw [wrap64 (n := (i : Int) + 1) (by omega)]
    refine ⟨fun g2 => ⟨by decide +kernel, by omega, fun _ => ⟨by omega, fun _ => ⟨fun g3 => ⟨by decide +kernel, by omega, fun _ => ⟨by omega, fun _ => ⟨⟨i + 1, ⟨?_, by omega⟩, by omega⟩, by omega⟩⟩⟩, fun g3 => ⟨⟨i + 1, ⟨?_, by omega⟩, by omega⟩, by omega⟩⟩⟩⟩, fun g2 => ?_⟩
    · rw [diffGo_ne (by omega) (by omega) g3]
    · rw [diffGo_eq (by omega) (by omega) g3]
    · rw [hd, List.take_of_length_le (by omega), List.take_of_length_le (by omega)]; simp

theorem diffOf_len (f n w h : Int) (os es : List PV) : (diffOf f n w h os es).1.r.length ≤ es.length := by
  unfold diffOf
  split
  · simp [VW.no]
  · split
    · simp [VW.no]
    · split
      · simp [VW.no]
      · exact diffGo_len _ _ _

def c_exDiffView : FSpec := ⟨[(.rd, .int .i64), (.rd, .int .i64), (.rd, .int .i64), (.rd, .int .i64), (.rd, .list .str), (.rd, .list .str)], [.bool], true, fun _ => True, fun _ => [.bool true], fun _ => []⟩
end Go.Proofs.YtolgjekokdimoaaGreatDoor
end

section
namespace Go.Proofs.YtolgjekokdimoaaGreatDoor
variable [LaidG]
set_option maxRecDepth 100000
set_option linter.unusedSimpArgs false

/-- A mirror. -/
structure MR where
  n : Int
  w : Int
  h : Int
  r : List PV
def MR.pv (m : MR) : PV := .agg [.int .i64 m.n, .int .i64 m.w, .int .i64 m.h, .list m.r]
def MR.no : MR := ⟨0, 0, 0, []⟩
def MR.ls (m : MR) : List PV := [.int .i64 m.n, .int .i64 m.w, .int .i64 m.h, .list m.r]
def VW.ls (v : VW) : List PV := [.int .i64 v.n, .int .i64 v.f, .bool v.u, .int .i64 v.w, .int .i64 v.h, .list v.r]

def putRow (out : List PV) (e : PV) : List PV := out.set (nth e.A 0).I.toNat (.str (nth e.A 1).S)
def putRows (out : List PV) (es : List PV) : List PV := es.foldl putRow out
theorem putRows_snoc {out es : List PV} {i : Nat} (h : i < es.length) : putRows out (es.take (i + 1)) = (putRows out (es.take i)).set (nth (nth es i).A 0).I.toNat (.str (nth (nth es i).A 1).S) := by
  rw [take_nth h, putRows, List.foldl_append]; rfl
theorem putRows_len : ∀ (es out : List PV), (putRows out es).length = out.length
  | [], out => rfl
  | e :: es, out => by
    have := putRows_len es (putRow out e)
    simp only [putRows, List.foldl_cons] at this ⊢
    rw [this, putRow, List.length_set]

theorem up_get {w h : Int} : ∀ {es : List PV} {p : Int}, upB w h p es = true → ∀ i, i < es.length → 0 ≤ (nth (nth es i).A 0).I ∧ (nth (nth es i).A 0).I < h
  | [], p, hu, i, hi => by simp at hi
  | e :: es, p, hu, 0, hi => by
    simp only [upB, Bool.and_eq_true, inB, decide_eq_true_eq] at hu
    rw [nth_zero]; omega
  | e :: es, p, hu, i + 1, hi => by
    simp only [upB, Bool.and_eq_true] at hu
    rw [nth_succ]
    exact up_get hu.2 i (by simpa using hi)
theorem up_len {w h : Int} : ∀ {es : List PV} {p : Int}, upB w h p es = true → p ≤ h - 1 → p + es.length ≤ h - 1
  | [], p, hu, hp => by simp; omega
  | e :: es, p, hu, hp => by
    simp only [upB, Bool.and_eq_true, inB, decide_eq_true_eq] at hu
    have := up_len hu.2 (by omega)
    simp only [List.length_cons]
    omega
/-- Rows that are all there. -/
theorem up_full {w h : Int} : ∀ {es : List PV} {p : Int}, upB w h p es = true → p ≤ h - 1 → p + es.length = h - 1 → ∀ i, i < es.length → (nth (nth es i).A 0).I = p + 1 + i
  | [], p, hu, hp, hl, i, hi => by simp at hi
  | e :: es, p, hu, hp, hl, i, hi => by
    have h0 := hu
    simp only [upB, Bool.and_eq_true, inB, decide_eq_true_eq] at hu
    have h1 := up_len hu.2 (by omega)
    simp only [List.length_cons] at hl hi
    have h2 : (nth e.A 0).I = p + 1 := by omega
    cases i with
    | zero => rw [nth_zero, h2]; simp
    | succ i =>
      rw [nth_succ, up_full hu.2 (by omega) (by omega) i (by omega), h2]; omega
theorem put_full {es out : List PV} (h : ∀ i, i < es.length → (nth (nth es i).A 0).I = i) (hl : out.length = es.length) : ∀ i, i ≤ es.length → (putRows out (es.take i)).take i = (es.take i).map fun e => .str (nth e.A 1).S
  | 0, _ => by simp
  | i + 1, hi => by
    have ih := put_full h hl i (by omega)
    rw [putRows_snoc (by omega), h i (by omega), Int.toNat_natCast, take_nth (by rw [List.length_set, putRows_len]; omega), List.take_set_of_le (Nat.le_refl _), ih, nth_set (by rw [putRows_len]; omega), take_nth (show i < es.length by omega), List.map_append]
    rfl

def acceptOf (m : MR) (v : VW) : MR × Int :=
  if v.n ≤ m.n then (m, 15) else cond v.u (⟨v.n, v.w, v.h, putRows (List.replicate v.h.toNat (.str [])) v.r⟩, 0)
    (if (v.f ≠ m.n ∨ v.w ≠ m.w) ∨ v.h ≠ m.h then (m, 19) else (⟨v.n, m.w, m.h, putRows m.r v.r⟩, 0))
theorem acc_a {m : MR} {v : VW} (h : v.n ≤ m.n) : acceptOf m v = (m, 15) := if_pos h
theorem acc_b {m : MR} {v : VW} (h : m.n < v.n) (hu : v.u = true) : acceptOf m v = (⟨v.n, v.w, v.h, putRows (List.replicate v.h.toNat (.str [])) v.r⟩, 0) := by
  rw [acceptOf, if_neg (by omega), hu]; rfl
theorem acc_c {m : MR} {v : VW} (h : m.n < v.n) (hu : v.u = false) (hd : (v.f ≠ m.n ∨ v.w ≠ m.w) ∨ v.h ≠ m.h) : acceptOf m v = (m, 19) := by
  rw [acceptOf, if_neg (by omega), hu, cond_false, if_pos hd]
theorem acc_d {m : MR} {v : VW} (h : m.n < v.n) (hu : v.u = false) (h1 : v.f = m.n) (h2 : v.w = m.w) (h3 : v.h = m.h) : acceptOf m v = (⟨v.n, m.w, m.h, putRows m.r v.r⟩, 0) := by
  rw [acceptOf, if_neg (by omega), hu, cond_false, if_neg (by simp [h1, h2, h3])]

/-- What a valid mirror and a valid view tell. -/
theorem mv_facts {n w h n' f w' h' : Int} {u : Bool} {rs es : List PV} (hm : mirB [.int .i64 n, .int .i64 w, .int .i64 h, .list rs] = true) (hv : viewB [.int .i64 n', .int .i64 f, .bool u, .int .i64 w', .int .i64 h', .list es] = true) :
    (0 ≤ n' ∧ n' ≤ 60 ∧ 2 ≤ w' ∧ w' ≤ 24 ∧ 2 ≤ h' ∧ h' ≤ 10 ∧ (es.length : Int) ≤ h') ∧ upB w' h' (-1) es = true ∧ (u = true → (es.length : Int) = h') ∧ (h' = h → (rs.length : Int) = h) ∧ rs.length ≤ 10 := by
  have e1 : inB n' 0 60 = true ∧ sizeB w' h' = true ∧ leB es.length h' = true ∧ upB w' h' (-1) es = true ∧ selB u (f == 0 && (es.length : Int) == h') (inB f 0 (n' - 1)) = true := by
    simpa [viewB, nth_zero, nth_succ, pv_I, pv_L, pv_B, and_assoc] using hv
  obtain ⟨h1, h2, h4, h5, h6⟩ := e1
  simp only [inB, sizeB, leB, Bool.and_eq_true, decide_eq_true_eq] at h1 h2 h4
  refine ⟨by omega, h5, fun hu => ?_, fun hh => ?_, ?_⟩
  · subst hu; simp [selB] at h6; exact h6.2
  · subst hh
    by_cases hn : n = -1
    · simp [mirB, nth_zero, nth_succ, pv_I, pv_L, hn] at hm; omega
    · simp [mirB, nth_zero, nth_succ, pv_I, pv_L, hn] at hm
      exact rowsB_len' hm.2
  · by_cases hn : n = -1
    · simp [mirB, nth_zero, nth_succ, pv_I, pv_L, hn] at hm; simp [hm.2]
    · simp [mirB, nth_zero, nth_succ, pv_I, pv_L, hn] at hm
      have := rowsB_len' hm.2
      have h7 := hm.1.2
      simp [sizeB, inB] at h7
      omega

def c_CloneS : FSpec := ⟨[(.rd, .list .str)], [.list .str], true, fun ps => (nth ps 0).L.length ≤ 1048576, fun ps => [.list (nth ps 0).L], fun _ => []⟩
theorem k_CloneS : FnOk Tryz.prog 113 c_CloneS := by
  refine fn_mk [0, 2] [.tmp 2] (env_nil (tyTab_ok [])) mixed Tryz.func113 rfl (by decide) rfl (by decide) rfl ?_
  intro ps hT hpre W hW
  simp only [c_CloneS, TyA, Ty, Tys] at hT hpre
  obtain ⟨_, _, rfl, ⟨es, rfl, hes, tes⟩, rfl⟩ := hT
  simp only [nth_zero, pv_L] at hpre
  refine hW.vc [] _ _ ?_
  simp [-List.getD_eq_getElem?_getD, c_CloneS]
  omega

def c_accepted : FSpec := ⟨[(.rd, .agg [.int .i64, .int .i64, .int .i64, .list .str]), (.rd, .agg [.int .i64, .int .i64, .bool, .int .i64, .int .i64, .list (.agg [.int .i64, .str])])], [.agg [.int .i64, .int .i64, .int .i64, .list .str], .int .i64], true, fun ps => mirB (nth ps 0).A = true ∧ viewB (nth ps 1).A = true,
  fun ps => [(acceptOf ⟨(nth (nth ps 0).A 0).I, (nth (nth ps 0).A 1).I, (nth (nth ps 0).A 2).I, (nth (nth ps 0).A 3).L⟩ ⟨(nth (nth ps 1).A 0).I, (nth (nth ps 1).A 1).I, (nth (nth ps 1).A 2).B, (nth (nth ps 1).A 3).I, (nth (nth ps 1).A 4).I, (nth (nth ps 1).A 5).L⟩).1.pv,
    .int .i64 (acceptOf ⟨(nth (nth ps 0).A 0).I, (nth (nth ps 0).A 1).I, (nth (nth ps 0).A 2).I, (nth (nth ps 0).A 3).L⟩ ⟨(nth (nth ps 1).A 0).I, (nth (nth ps 1).A 1).I, (nth (nth ps 1).A 2).B, (nth (nth ps 1).A 3).I, (nth (nth ps 1).A 4).I, (nth (nth ps 1).A 5).L⟩).2], fun _ => []⟩
theorem k_accepted : FnOk Tryz.prog 74 c_accepted := by
  refine fn_mk [0, 1, 2, 3, 4, 5, 6, 8, 59, 60, 61] [.cell 4 32, .tmp 5] (env_cons (cs := []) k_CloneS (env_nil (tyTab_ok []))) mixed Tryz.func74 rfl (by decide) rfl (by decide) rfl ?_
  intro ps hT hpre W hW
  simp only [c_accepted, TyA, Ty, Tys] at hT hpre
  obtain ⟨_, _, rfl, ⟨_, rfl, _, _, rfl, ⟨n, rfl, hn⟩, _, _, rfl, ⟨w, rfl, hw⟩, _, _, rfl, ⟨h, rfl, hh⟩, _, _, rfl, ⟨rs, rfl, hrs, trs⟩, rfl⟩, _, _, rfl, ⟨_, rfl, _, _, rfl, ⟨n', rfl, hn'⟩, _, _, rfl, ⟨f, rfl, hf⟩, _, _, rfl, ⟨u, rfl⟩, _, _, rfl, ⟨w', rfl, hw'⟩, _, _, rfl, ⟨h', rfl, hh'⟩, _, _, rfl, ⟨es, rfl, hes, tes⟩, rfl⟩, rfl⟩ := hT
  simp only [nth_zero, nth_succ, pv_A] at hpre
  obtain ⟨hm, hv⟩ := hpre
  obtain ⟨g1, g2, g3, g4, g5⟩ := mv_facts hm hv
  refine hW.vc [(1, [11], .take 0 <| .take 1 <| .take 2 <| .take 3 <| .take 4 <| .take 5 <| .take 6 <| .take 7 <| .alt 8 (.take 9 <| .alt 10 (.alt 11 (.done) .stop) .stop) (.alt 10 (.alt 8 (.take 9 <| .alt 11 (.done) .stop) .stop) .stop)), (5, [8], .take 0 <| .take 1 <| .take 2 <| .take 3 <| .take 4 <| .take 5 <| .alt 6 (.take 7 <| .alt 8 (.done) .stop) .stop)] _ _ ?_
  simp [-List.getD_eq_getElem?_getD, c_accepted, c_CloneS, MR.pv]
  have hup := up_get g2
  refine ⟨by decide +kernel, ?_, ?_⟩
  all_goals
    refine ⟨by omega, fun k1 => by rw [acc_a k1]; simp, fun k1 => ⟨fun k2 => ⟨by decide +kernel, by omega, fun _ => ?_⟩, fun k2 => ⟨fun k3 => by rw [acc_c k1 k2 k3]; simp, fun k3 k4 k5 _ => ?_⟩⟩⟩
    · have hb := acc_b (m := ⟨n, w, h, rs⟩) (v := ⟨n', f, u, w', h', es⟩) k1 k2
      refine hW.loopS _ _ _ [.bx 6 [.int .i64, .int .i64, .int .i64, .list .str], .sl 61 .dp (.int .i64)] (fun ys => ∃ i : Nat, ys = [.agg [.int .i64 n', .int .i64 w', .int .i64 h', .list (putRows (List.replicate h'.toNat (.str [])) (es.take i))], .int .i64 i] ∧ i ≤ es.length) (fun ys => es.length - (nth ys 1).I.toNat) ?_ ?_
      · simp [-List.getD_eq_getElem?_getD, c_accepted, c_CloneS]
        exact ⟨0, ⟨by simp [putRows], rfl⟩, by simp⟩
      · rintro ys ⟨i, rfl, q1⟩
        refine hW.vc [(1, [11], .take 0 <| .take 1 <| .take 2 <| .take 3 <| .take 4 <| .take 5 <| .take 6 <| .take 7 <| .alt 8 (.take 9 <| .alt 10 (.alt 11 (.done) .stop) .stop) (.alt 10 (.alt 8 (.take 9 <| .alt 11 (.done) .stop) .stop) .stop)), (5, [8], .take 0 <| .take 1 <| .take 2 <| .take 3 <| .take 4 <| .take 5 <| .alt 6 (.take 7 <| .alt 8 (.done) .stop) .stop)] _ _ ?_
        simp [-List.getD_eq_getElem?_getD, c_accepted, c_CloneS, MR.pv]
        have hpl := putRows_len (es.take i) (List.replicate h'.toNat (PV.str []))
        have hol : ((List.replicate h'.toNat (PV.str [])).length : Int) = h' := by simp; omega
        rw [wrap64 (n := (i : Int) + 1) (by omega), hpl]
        refine ⟨fun q2 => ⟨q2, fun _ _ _ => ⟨⟨(hup i q2).1, by have := (hup i q2).2; omega⟩, by have := hup i q2; omega, ⟨i + 1, ⟨(putRows_snoc q2).symm, by omega⟩, by omega⟩, by omega⟩⟩, fun q2 => by rw [hb, List.take_of_length_le q2]; simp⟩
    · have hb := acc_d (m := ⟨n, w, h, rs⟩) (v := ⟨n', f, u, w', h', es⟩) k1 k2 k3 k4 k5
      refine hW.loopS _ _ _ [.bx 6 [.int .i64, .int .i64, .int .i64, .list .str], .sl 61 .dp (.int .i64)] (fun ys => ∃ i : Nat, ys = [.agg [.int .i64 n', .int .i64 w, .int .i64 h, .list (putRows rs (es.take i))], .int .i64 i] ∧ i ≤ es.length) (fun ys => es.length - (nth ys 1).I.toNat) ?_ ?_
      · simp [-List.getD_eq_getElem?_getD, c_accepted, c_CloneS]
        exact ⟨0, ⟨by simp [putRows], rfl⟩, by simp⟩
      · rintro ys ⟨i, rfl, q1⟩
        refine hW.vc [(1, [11], .take 0 <| .take 1 <| .take 2 <| .take 3 <| .take 4 <| .take 5 <| .take 6 <| .take 7 <| .alt 8 (.take 9 <| .alt 10 (.alt 11 (.done) .stop) .stop) (.alt 10 (.alt 8 (.take 9 <| .alt 11 (.done) .stop) .stop) .stop)), (5, [8], .take 0 <| .take 1 <| .take 2 <| .take 3 <| .take 4 <| .take 5 <| .alt 6 (.take 7 <| .alt 8 (.done) .stop) .stop)] _ _ ?_
        simp [-List.getD_eq_getElem?_getD, c_accepted, c_CloneS, MR.pv]
        have hpl := putRows_len (es.take i) rs
        have hol : (rs.length : Int) = h' := by have := g4 k5; omega
        rw [wrap64 (n := (i : Int) + 1) (by omega), hpl]
        refine ⟨fun q2 => ⟨q2, fun _ _ _ => ⟨⟨(hup i q2).1, by have := (hup i q2).2; omega⟩, by have := hup i q2; omega, ⟨i + 1, ⟨(putRows_snoc q2).symm, by omega⟩, by omega⟩, by omega⟩⟩, fun q2 => by rw [hb, List.take_of_length_le q2]; simp⟩

def acceptAll (m : MR) (v : VW) : MR × Int := if mirB m.ls = false ∨ viewB v.ls = false then (MR.no, 1) else acceptOf m v
theorem accAll_a {m : MR} {v : VW} (h : mirB m.ls = false ∨ viewB v.ls = false) : acceptAll m v = (MR.no, 1) := if_pos h
theorem accAll_b {m : MR} {v : VW} (h : mirB m.ls = true) (h' : viewB v.ls = true) : acceptAll m v = acceptOf m v := if_neg (by simp [h, h'])

def c_iAcceptView : FSpec := ⟨[(.rd, .agg [.int .i64, .int .i64, .int .i64, .list .str]), (.rd, .agg [.int .i64, .int .i64, .bool, .int .i64, .int .i64, .list (.agg [.int .i64, .str])])], [.agg [.int .i64, .int .i64, .int .i64, .list .str], .int .i64], true, fun _ => True,
  fun ps => [(acceptAll ⟨(nth (nth ps 0).A 0).I, (nth (nth ps 0).A 1).I, (nth (nth ps 0).A 2).I, (nth (nth ps 0).A 3).L⟩ ⟨(nth (nth ps 1).A 0).I, (nth (nth ps 1).A 1).I, (nth (nth ps 1).A 2).B, (nth (nth ps 1).A 3).I, (nth (nth ps 1).A 4).I, (nth (nth ps 1).A 5).L⟩).1.pv,
    .int .i64 (acceptAll ⟨(nth (nth ps 0).A 0).I, (nth (nth ps 0).A 1).I, (nth (nth ps 0).A 2).I, (nth (nth ps 0).A 3).L⟩ ⟨(nth (nth ps 1).A 0).I, (nth (nth ps 1).A 1).I, (nth (nth ps 1).A 2).B, (nth (nth ps 1).A 3).I, (nth (nth ps 1).A 4).I, (nth (nth ps 1).A 5).L⟩).2], fun _ => []⟩
theorem k_iAcceptView : FnOk Tryz.prog 31 c_iAcceptView := by
  refine fn_mk [0, 1, 2, 3, 4, 5] [.cell 4 32, .tmp 5] (env_cons (cs := []) k_accepted (env_cons (cs := []) k_isView (env_cons (cs := []) k_isMirror (env_nil (tyTab_ok []))))) mixed Tryz.func31 rfl (by decide) rfl (by decide) rfl ?_
  intro ps hT hpre W hW
  simp only [c_iAcceptView, TyA, Ty, Tys] at hT hpre
  obtain ⟨_, _, rfl, ⟨_, rfl, _, _, rfl, ⟨n, rfl, hn⟩, _, _, rfl, ⟨w, rfl, hw⟩, _, _, rfl, ⟨h, rfl, hh⟩, _, _, rfl, ⟨rs, rfl, hrs, trs⟩, rfl⟩, _, _, rfl, ⟨_, rfl, _, _, rfl, ⟨n', rfl, hn'⟩, _, _, rfl, ⟨f, rfl, hf⟩, _, _, rfl, ⟨u, rfl⟩, _, _, rfl, ⟨w', rfl, hw'⟩, _, _, rfl, ⟨h', rfl, hh'⟩, _, _, rfl, ⟨es, rfl, hes, tes⟩, rfl⟩, rfl⟩ := hT
  refine hW.vc [] _ _ ?_
  simp [-List.getD_eq_getElem?_getD, c_iAcceptView, c_isMirror, c_isView, c_accepted, MR.pv]
  refine ⟨fun q1 => by rw [accAll_a (m := ⟨n, w, h, rs⟩) (v := ⟨n', f, u, w', h', es⟩) q1]; simp [MR.no], fun q1 q2 => ⟨⟨q1, q2⟩, ?_⟩⟩
  rw [accAll_b (m := ⟨n, w, h, rs⟩) (v := ⟨n', f, u, w', h', es⟩) q1 q2]
  simp

def c_l11Own : FSpec := ⟨[(.rd, .agg [.int .i64, .int .i64, .int .i64, .list .str])], [.agg [.int .i64, .int .i64, .int .i64, .list .str]], true, fun ps => (nth (nth ps 0).A 3).L.length ≤ 1048576, fun ps => [nth ps 0], fun _ => []⟩
theorem k_l11Own : FnOk Tryz.prog 82 c_l11Own := by
  refine fn_mk [0, 1, 2] [.cell 2 32] (env_nil (tyTab_ok [])) mixed Tryz.func82 rfl (by decide) rfl (by decide) rfl ?_
  intro ps hT hpre W hW
  simp only [c_l11Own, TyA, Ty, Tys] at hT hpre
  obtain ⟨_, _, rfl, ⟨_, rfl, _, _, rfl, ⟨n, rfl, hn⟩, _, _, rfl, ⟨w, rfl, hw⟩, _, _, rfl, ⟨h, rfl, hh⟩, _, _, rfl, ⟨rs, rfl, hrs, trs⟩, rfl⟩, rfl⟩ := hT
  simp only [nth_zero, nth_succ, pv_A, pv_L] at hpre
  refine hW.vc [] _ _ ?_
  simp [-List.getD_eq_getElem?_getD, c_l11Own]
  omega

theorem put_all {w h : Int} {es : List PV} (hu : upB w h (-1) es = true) (hl : (es.length : Int) = h) : putRows (List.replicate h.toNat (.str [])) es = es.map fun e => .str (nth e.A 1).S := by
  have h1 := up_full hu (by omega) (by omega)
  have h2 := put_full (out := List.replicate h.toNat (.str [])) (fun i hi => by rw [h1 i hi]; omega) (by simp; omega) es.length (Nat.le_refl _)
  rwa [List.take_of_length_le (Nat.le_refl _), List.take_of_length_le (by rw [putRows_len]; simp; omega)] at h2

def c_l11Accept : FSpec := { c_accepted with fresh := false }
theorem k_l11Accept : FnOk Tryz.prog 81 c_l11Accept := by
  refine fn_mk [0, 1, 2, 3, 4, 5, 6, 7, 8, 9] [.cell 4 32, .tmp 5] (env_cons (cs := []) k_l11Own (env_nil (tyTab_ok []))) mixed Tryz.func81 rfl (by decide) rfl (by decide) rfl ?_
  intro ps hT hpre W hW
  simp only [c_l11Accept, TyA, Ty, Tys] at hT hpre
  simp only [c_accepted, TyA, Ty, Tys] at hT hpre
  obtain ⟨_, _, rfl, ⟨_, rfl, _, _, rfl, ⟨n, rfl, hn⟩, _, _, rfl, ⟨w, rfl, hw⟩, _, _, rfl, ⟨h, rfl, hh⟩, _, _, rfl, ⟨rs, rfl, hrs, trs⟩, rfl⟩, _, _, rfl, ⟨_, rfl, _, _, rfl, ⟨n', rfl, hn'⟩, _, _, rfl, ⟨f, rfl, hf⟩, _, _, rfl, ⟨u, rfl⟩, _, _, rfl, ⟨w', rfl, hw'⟩, _, _, rfl, ⟨h', rfl, hh'⟩, _, _, rfl, ⟨es, rfl, hes, tes⟩, rfl⟩, rfl⟩ := hT
  simp only [nth_zero, nth_succ, pv_A] at hpre
  obtain ⟨hm, hv⟩ := hpre
  obtain ⟨g1, g2, g3, g4, g5⟩ := mv_facts hm hv
  have hup := up_get g2
  refine hW.vc [(8, [9, 11], .take 0 <| .take 1 <| .take 2 <| .take 3 <| .take 4 <| .take 5 <| .take 6 <| .take 7 <| .alt 8 (.alt 9 (.take 10 <| .alt 11 (.done) .stop) .stop) .stop), (17, [15], .take 0 <| .take 1 <| .take 2 <| .take 3 <| .take 4 <| .take 5 <| .take 6 <| .take 7 <| .take 8 <| .take 9 <| .take 10 <| .take 11 <| .take 12 <| .take 13 <| .take 14 <| .alt 15 (.done) .stop)] _ _ ?_
  simp [-List.getD_eq_getElem?_getD, c_l11Accept, c_l11Own, c_accepted, c_accepted, MR.pv]
  refine ⟨fun k1 => by rw [acc_a k1]; simp, fun k1 => ⟨fun k2 => ?_, fun k2 => ⟨fun k3 => by rw [acc_c k1 k2 k3]; simp, fun k3 k4 k5 => ⟨by omega, ?_⟩⟩⟩⟩
  · have hb := acc_b (m := ⟨n, w, h, rs⟩) (v := ⟨n', f, u, w', h', es⟩) k1 k2
    rw [put_all g2 (g3 k2)] at hb
    refine hW.loopS _ _ _ [.bx 6 [.int .i64, .int .i64, .int .i64, .list .str], .sl 7 .dp (.int .i64)] (fun ys => ∃ i : Nat, ys = [.agg [.int .i64 n', .int .i64 w', .int .i64 h', .list ((es.take i).map fun e => .str (nth e.A 1).S)], .int .i64 i] ∧ i ≤ es.length) (fun ys => es.length - (nth ys 1).I.toNat) ?_ ?_
    · simp [-List.getD_eq_getElem?_getD, c_l11Accept, c_l11Own, c_accepted]
      exact ⟨0, ⟨by simp, rfl⟩, by simp⟩
    · rintro ys ⟨i, rfl, q1⟩
      refine hW.vc [(8, [9, 11], .take 0 <| .take 1 <| .take 2 <| .take 3 <| .take 4 <| .take 5 <| .take 6 <| .take 7 <| .alt 8 (.alt 9 (.take 10 <| .alt 11 (.done) .stop) .stop) .stop), (17, [15], .take 0 <| .take 1 <| .take 2 <| .take 3 <| .take 4 <| .take 5 <| .take 6 <| .take 7 <| .take 8 <| .take 9 <| .take 10 <| .take 11 <| .take 12 <| .take 13 <| .take 14 <| .alt 15 (.done) .stop)] _ _ ?_
      simp [-List.getD_eq_getElem?_getD, c_l11Accept, c_l11Own, c_accepted, c_accepted, MR.pv]
      rw [wrap64 (n := (i : Int) + 1) (by omega)]
      refine fun _ => ⟨fun q2 => ⟨by decide +kernel, q2, fun _ => ⟨by omega, fun _ => ⟨⟨i + 1, ⟨?_, by omega⟩, by omega⟩, by omega⟩⟩⟩, fun q2 => ?_⟩
      · rw [take_nth (by simpa using q2), nth_map _ _ _ q2, nth_eq q2]
      · rw [hb, List.take_of_length_le (by simpa using q2)]; simp
  · have hb := acc_d (m := ⟨n, w, h, rs⟩) (v := ⟨n', f, u, w', h', es⟩) k1 k2 k3 k4 k5
    refine hW.loopS _ _ _ [.bx 8 [.int .i64, .int .i64, .int .i64, .list .str], .sl 9 .dp (.int .i64)] (fun ys => ∃ i : Nat, ys = [.agg [.int .i64 n', .int .i64 w, .int .i64 h, .list (putRows rs (es.take i))], .int .i64 i] ∧ i ≤ es.length) (fun ys => es.length - (nth ys 1).I.toNat) ?_ ?_
    · simp [-List.getD_eq_getElem?_getD, c_l11Accept, c_l11Own, c_accepted]
      exact ⟨0, ⟨by simp [putRows], rfl⟩, by simp⟩
    · rintro ys ⟨i, rfl, q1⟩
      refine hW.vc [(8, [9, 11], .take 0 <| .take 1 <| .take 2 <| .take 3 <| .take 4 <| .take 5 <| .take 6 <| .take 7 <| .alt 8 (.alt 9 (.take 10 <| .alt 11 (.done) .stop) .stop) .stop), (17, [15], .take 0 <| .take 1 <| .take 2 <| .take 3 <| .take 4 <| .take 5 <| .take 6 <| .take 7 <| .take 8 <| .take 9 <| .take 10 <| .take 11 <| .take 12 <| .take 13 <| .take 14 <| .alt 15 (.done) .stop)] _ _ ?_
      simp [-List.getD_eq_getElem?_getD, c_l11Accept, c_l11Own, c_accepted, c_accepted, MR.pv]
      have hpl := putRows_len (es.take i) rs
      have hol : (rs.length : Int) = h' := by have := g4 k5; omega
      rw [wrap64 (n := (i : Int) + 1) (by omega), hpl]
      refine fun _ => ⟨fun q2 => ⟨by decide +kernel, q2, fun _ => ⟨q2, fun _ => ⟨⟨(hup i q2).1, by have := (hup i q2).2; omega⟩, by have := hup i q2; omega, ⟨i + 1, ⟨(putRows_snoc q2).symm, by omega⟩, by omega⟩, by omega⟩⟩⟩, fun q2 => by rw [hb, List.take_of_length_le q2]; simp⟩

theorem acc_len {m : MR} {v : VW} (hm : mirB m.ls = true) (hv : viewB v.ls = true) : (acceptOf m v).1.r.length ≤ 10 := by
  obtain ⟨g1, g2, g3, g4, g5⟩ := mv_facts hm hv
  unfold acceptOf
  split
  · exact g5
  · cases v.u
    · rw [cond_false]
      split
      · exact g5
      · show (putRows m.r v.r).length ≤ 10
        rw [putRows_len]; exact g5
    · show (putRows (List.replicate v.h.toNat (.str [])) v.r).length ≤ 10
      rw [putRows_len]; simp; omega
theorem accAll_len (m : MR) (v : VW) : (acceptAll m v).1.r.length ≤ 10 := by
  by_cases h : mirB m.ls = false ∨ viewB v.ls = false
  · rw [accAll_a h]; simp [MR.no]
  · have h1 : mirB m.ls = true := by cases h2 : mirB m.ls with | true => rfl | false => exact absurd (.inl h2) h
    have h3 : viewB v.ls = true := by cases h2 : viewB v.ls with | true => rfl | false => exact absurd (.inr h2) h
    rw [accAll_b h1 h3]; exact acc_len h1 h3

def c_sAcceptView : FSpec := c_iAcceptView
theorem eqMir_refl (v : List PV) : eqMir v v = true := by simp [eqMir, eqS_refl]

def c_exAcceptView : FSpec := ⟨[(.rd, .agg [.int .i64, .int .i64, .int .i64, .list .str]), (.rd, .agg [.int .i64, .int .i64, .bool, .int .i64, .int .i64, .list (.agg [.int .i64, .str])])], [.bool], true, fun _ => True, fun _ => [.bool true], fun _ => []⟩
end Go.Proofs.YtolgjekokdimoaaGreatDoor
end

section
namespace Go.Proofs.YtolgjekokdimoaaGreatDoor
variable [LaidG]
set_option maxRecDepth 100000
set_option linter.unusedSimpArgs false

def szC2 (l : Int) (a b : Nat) (es : List PV) : Int := if l - a < 0 then -1 else if l - a - b < 0 then -1 else szStr es (l - a - b)
def szCli (c : List PV) (l : Int) : Int := szC2 l (nth c 1).S.length (nth c 2).S.length (nth c 6).L
theorem szC2_le {l : Int} {a b : Nat} {es : List PV} (h : 0 ≤ l) : szC2 l a b es ≤ l ∧ -1 ≤ szC2 l a b es ∧ (0 ≤ szC2 l a b es → (es.length : Int) ≤ l ∧ (a : Int) ≤ l ∧ (b : Int) ≤ l) := by
  unfold szC2
  split
  · omega
  · split
    · omega
    · have := szStr_le (es := es) (l := l - a - b) (by omega)
      omega
def c_szClient : FSpec := ⟨[(.rd, .agg [.int .i64, .str, .str, .int .i64, .int .i64, .int .i64, .list .str]), (.rd, .int .i64)], [.int .i64], true, fun ps => 0 ≤ (nth ps 1).I, fun ps => [.int .i64 (szCli (nth ps 0).A (nth ps 1).I)], fun _ => []⟩
theorem k_szClient : FnOk Tryz.prog 7 c_szClient := by
  refine fn_mk [0, 1, 2, 4] [.tmp 4] (env_cons (cs := []) k_szMirror (env_nil (tyTab_ok []))) mixed Tryz.func7 rfl (by decide) rfl (by decide) rfl ?_
  intro ps hT hpre W hW
  simp only [c_szClient, TyA, Ty, Tys] at hT hpre
  obtain ⟨_, _, rfl, ⟨_, rfl, _, _, rfl, ⟨c, rfl, hc⟩, _, _, rfl, ⟨t, rfl, ht⟩, _, _, rfl, ⟨k, rfl, hk⟩, _, _, rfl, ⟨n, rfl, hn⟩, _, _, rfl, ⟨w, rfl, hw⟩, _, _, rfl, ⟨h, rfl, hh⟩, _, _, rfl, ⟨rs, rfl, hrs, trs⟩, rfl⟩, _, _, rfl, ⟨l, rfl, hl⟩, rfl⟩ := hT
  simp only [nth_zero, nth_succ, pv_I] at hpre
  refine hW.vc [] _ _ ?_
  simp [-List.getD_eq_getElem?_getD, c_szClient, c_szMirror]
  intro ht
  have hl2 : l ≤ 9223372036854775807 := hl.2
  rw [wrap64 (n := l - t.length) (by omega)]
  simp only [szCli, nth_zero, nth_succ, pv_S, pv_L]
  simp only [szC2]
  refine ⟨fun h1 => by rw [if_pos h1], fun h1 hk => ?_⟩
  rw [wrap64 (n := l - t.length - k.length) (by omega), if_neg (by omega)]
  refine ⟨fun h2 => by rw [if_pos h2], fun h2 => ?_⟩
  rw [if_neg (by omega)]
  have h3 := szStr_le (es := rs) h2
  exact ⟨h2, fun h4 => by omega, fun _ => rfl⟩
def c_toClient : FSpec := ⟨[(.rd, .agg [.int .i64, .str, .str, .int .i64, .int .i64, .int .i64, .list .str])], [.agg [.int .i64, .str, .str, .int .i64, .int .i64, .int .i64, .list .str]], true, fun ps => (nth (nth ps 0).A 6).L.length ≤ 1048576, fun ps => [nth ps 0], fun _ => []⟩
theorem k_toClient : FnOk Tryz.prog 10 c_toClient := by
  refine fn_mk [0, 1, 2, 3] [.cell 2 34] (env_cons (cs := []) k_toMirror (env_nil (tyTab_ok []))) mixed Tryz.func10 rfl (by decide) rfl (by decide) rfl ?_
  intro ps hT hpre W hW
  simp only [c_toClient, TyA, Ty, Tys] at hT hpre
  obtain ⟨_, _, rfl, ⟨_, rfl, _, _, rfl, ⟨c, rfl, hc⟩, _, _, rfl, ⟨t, rfl, ht⟩, _, _, rfl, ⟨k, rfl, hk⟩, _, _, rfl, ⟨n, rfl, hn⟩, _, _, rfl, ⟨w, rfl, hw⟩, _, _, rfl, ⟨h, rfl, hh⟩, _, _, rfl, ⟨rs, rfl, hrs, trs⟩, rfl⟩, rfl⟩ := hT
  simp only [nth_zero, nth_succ, pv_A, pv_L] at hpre
  refine hW.vc [] _ _ ?_
  simp [-List.getD_eq_getElem?_getD, c_toClient, c_toMirror]
  exact hpre
def eqCli (a b : List PV) : Bool := (nth a 0).I == (nth b 0).I && (nth a 1).S == (nth b 1).S && (nth a 2).S == (nth b 2).S && eqMir [nth a 3, nth a 4, nth a 5, nth a 6] [nth b 3, nth b 4, nth b 5, nth b 6]
theorem eqCli_refl (a : List PV) : eqCli a a = true := by simp [eqCli, eqMir_refl]
def c_eqClient : FSpec := ⟨[(.rd, .agg [.int .i64, .str, .str, .int .i64, .int .i64, .int .i64, .list .str]), (.rd, .agg [.int .i64, .str, .str, .int .i64, .int .i64, .int .i64, .list .str])], [.bool], true, fun _ => True, fun ps => [.bool (eqCli (nth ps 0).A (nth ps 1).A)], fun _ => []⟩
theorem k_eqClient : FnOk Tryz.prog 13 c_eqClient := by
  refine fn_mk [0, 1, 2, 3, 4] [.tmp 4] (env_cons (cs := []) k_eqMirror (env_nil (tyTab_ok []))) mixed Tryz.func13 rfl (by decide) rfl (by decide) rfl ?_
  intro ps hT hpre W hW
  simp only [c_eqClient, TyA, Ty, Tys] at hT hpre
  obtain ⟨_, _, rfl, ⟨_, rfl, _, _, rfl, ⟨c, rfl, hc⟩, _, _, rfl, ⟨t, rfl, ht⟩, _, _, rfl, ⟨k, rfl, hk⟩, _, _, rfl, ⟨n, rfl, hn⟩, _, _, rfl, ⟨w, rfl, hw⟩, _, _, rfl, ⟨h, rfl, hh⟩, _, _, rfl, ⟨rs, rfl, hrs, trs⟩, rfl⟩, _, _, rfl, ⟨_, rfl, _, _, rfl, ⟨c', rfl, hc'⟩, _, _, rfl, ⟨t', rfl, ht'⟩, _, _, rfl, ⟨k', rfl, hk'⟩, _, _, rfl, ⟨n', rfl, hn'⟩, _, _, rfl, ⟨w', rfl, hw'⟩, _, _, rfl, ⟨h', rfl, hh'⟩, _, _, rfl, ⟨rs', rfl, hrs', trs'⟩, rfl⟩, rfl⟩ := hT
  refine hW.vc [] _ _ ?_
  simp [-List.getD_eq_getElem?_getD, c_eqClient, c_eqMirror]
  simp only [eqCli, nth_zero, nth_succ, pv_I, pv_S]
  exact ⟨fun q1 => by simp [q1], fun q1 => ⟨fun q2 => by simp [q2], fun q2 => ⟨fun q3 => by simp [q3], fun q3 => ⟨fun q4 => by simp [q4], fun q4 => by simp [q1, q2, q3, q4]⟩⟩⟩⟩
def c_markClient : FSpec := ⟨[(.mt, .agg [.int .i64, .str, .str, .int .i64, .int .i64, .int .i64, .list .str]), (.rd, .int .i64)], [.int .i64], true, fun ps => 0 ≤ (nth ps 1).I ∧ (nth ps 1).I + (nth (nth ps 0).A 6).L.length ≤ 1073741823, fun ps => [.int .i64 ((nth ps 1).I + (nth (nth ps 0).A 6).L.length)],
  fun ps => [.agg [nth (nth ps 0).A 0, nth (nth ps 0).A 1, nth (nth ps 0).A 2, nth (nth ps 0).A 3, nth (nth ps 0).A 4, nth (nth ps 0).A 5, .list (markS (nth ps 1).I (nth (nth ps 0).A 6).L.length)]]⟩
theorem k_markClient : FnOk Tryz.prog 15 c_markClient := by
  refine fn_mk [0, 1, 2, 4] [.tmp 4] (env_cons (cs := []) k_markMirror (env_nil (tyTab_ok []))) mixed Tryz.func15 rfl (by decide) rfl (by decide) rfl ?_
  intro ps hT hpre W hW
  simp only [c_markClient, TyA, Ty, Tys] at hT hpre
  obtain ⟨_, _, rfl, ⟨_, rfl, _, _, rfl, ⟨c, rfl, hc⟩, _, _, rfl, ⟨t, rfl, ht⟩, _, _, rfl, ⟨k, rfl, hk⟩, _, _, rfl, ⟨n, rfl, hn⟩, _, _, rfl, ⟨w, rfl, hw⟩, _, _, rfl, ⟨h, rfl, hh⟩, _, _, rfl, ⟨rs, rfl, hrs, trs⟩, rfl⟩, _, _, rfl, ⟨m, rfl, hm⟩, rfl⟩ := hT
  simp only [nth_zero, nth_succ, pv_I, pv_L, pv_A] at hpre
  refine hW.vc [] _ _ ?_
  simp [-List.getD_eq_getElem?_getD, c_markClient, c_markMirror]
  exact hpre
def c_heldClient : FSpec := ⟨[(.rd, .agg [.int .i64, .str, .str, .int .i64, .int .i64, .int .i64, .list .str]), (.rd, .int .i64)], [.int .i64], true, fun ps => 0 ≤ (nth ps 1).I ∧ (nth ps 1).I + (nth (nth ps 0).A 6).L.length ≤ 1073741823, fun ps => [.int .i64 (heldGo heldS1 1 (nth ps 1).I (nth (nth ps 0).A 6).L)], fun _ => []⟩
theorem k_heldClient : FnOk Tryz.prog 17 c_heldClient := by
  refine fn_mk [0, 1, 2, 4] [.tmp 4] (env_cons (cs := []) k_heldMirror (env_nil (tyTab_ok []))) mixed Tryz.func17 rfl (by decide) rfl (by decide) rfl ?_
  intro ps hT hpre W hW
  simp only [c_heldClient, TyA, Ty, Tys] at hT hpre
  obtain ⟨_, _, rfl, ⟨_, rfl, _, _, rfl, ⟨c, rfl, hc⟩, _, _, rfl, ⟨t, rfl, ht⟩, _, _, rfl, ⟨k, rfl, hk⟩, _, _, rfl, ⟨n, rfl, hn⟩, _, _, rfl, ⟨w, rfl, hw⟩, _, _, rfl, ⟨h, rfl, hh⟩, _, _, rfl, ⟨rs, rfl, hrs, trs⟩, rfl⟩, _, _, rfl, ⟨m, rfl, hm⟩, rfl⟩ := hT
  simp only [nth_zero, nth_succ, pv_I, pv_L, pv_A] at hpre
  refine hW.vc [] _ _ ?_
  simp [-List.getD_eq_getElem?_getD, c_heldClient, c_heldMirror]
  exact ⟨hpre, fun h1 => (held_neg (by omega) (by omega) h1).symm⟩

end Go.Proofs.YtolgjekokdimoaaGreatDoor
end

section
namespace Go.Proofs.YtolgjekokdimoaaGreatDoor
variable [LaidG]
variable [LaidN 0] [LaidN 1]
variable [LaidN 5]
set_option maxRecDepth 100000
set_option linter.unusedSimpArgs false

theorem told_0 (c : Int) (t : List UInt8) : toldB c t 0 = toldB c t (-1) := by simp [toldB, inB]
/-- A client that has shown nothing yet. -/
def cliL (key : List UInt8) (c : Int) (t : List UInt8) : List PV := [.int .i64 c, .str t, .str (tokenL key c t (-1)), .int .i64 (-1), .int .i64 0, .int .i64 0, .list []]
def cliZ : List PV := [.int .i64 0, .str [], .str [], .int .i64 0, .int .i64 0, .int .i64 0, .list []]
def c_newClient : FSpec := ⟨[(.rd, .str), (.rd, .int .i64), (.rd, .str)], [.agg [.int .i64, .str, .str, .int .i64, .int .i64, .int .i64, .list .str]], true, fun ps => (nth ps 0).S.length ≤ 1000000 ∧ toldP (nth ps 1).I (nth ps 2).S (-1), fun ps => [.agg [.int .i64 (nth ps 1).I, .str (nth ps 2).S, .str (tokenL (nth ps 0).S (nth ps 1).I (nth ps 2).S (-1)), .int .i64 (-1), .int .i64 0, .int .i64 0, .list []]], fun _ => []⟩
def c_l13New : FSpec := c_newClient
def newK (key : List UInt8) (c : Int) (t : List UInt8) : Int := if longB key t = true then 2 else if toldB c t (-1) = true then 0 else 1
def newI (key : List UInt8) (c : Int) (t : List UInt8) : Int := if newK key c t = 0 then c else 0
def newW (key : List UInt8) (c : Int) (t : List UInt8) : List UInt8 := if newK key c t = 0 then t else []
def newT (key : List UInt8) (c : Int) (t : List UInt8) : List UInt8 := if newK key c t = 0 then tokenL key c t (-1) else []
def newM (key : List UInt8) (c : Int) (t : List UInt8) : Int := if newK key c t = 0 then -1 else 0
def c_NewClient : FSpec := ⟨[(.rd, .str), (.rd, .int .i64), (.rd, .str)], [.agg [.int .i64, .str, .str, .int .i64, .int .i64, .int .i64, .list .str], .int .i64], true, fun _ => True, fun ps => [.agg [.int .i64 (newI (nth ps 0).S (nth ps 1).I (nth ps 2).S), .str (newW (nth ps 0).S (nth ps 1).I (nth ps 2).S), .str (newT (nth ps 0).S (nth ps 1).I (nth ps 2).S), .int .i64 (newM (nth ps 0).S (nth ps 1).I (nth ps 2).S), .int .i64 0, .int .i64 0, .list []], .int .i64 (newK (nth ps 0).S (nth ps 1).I (nth ps 2).S)], fun _ => []⟩
theorem new_a {key : List UInt8} {c : Int} {t : List UInt8} (hb : longB key t = true) : newK key c t = 2 := by rw [newK, if_pos hb]
theorem new_b {key : List UInt8} {c : Int} {t : List UInt8} (hb : longB key t = false) (h : toldB c t (-1) = true) : newK key c t = 0 := by rw [newK, if_neg (by rw [hb]; decide), if_pos h]
theorem new_c {key : List UInt8} {c : Int} {t : List UInt8} (hb : longB key t = false) (h : toldB c t (-1) = false) : newK key c t = 1 := by rw [newK, if_neg (by rw [hb]; decide), if_neg (by rw [h]; decide)]
def c_sNewClient : FSpec := c_NewClient
def cliB (key : List UInt8) (c : List PV) : Bool := toldB (nth c 0).I (nth c 1).S (-1) && mirB [nth c 3, nth c 4, nth c 5, nth c 6] && (nth c 2).S == tokenL key (nth c 0).I (nth c 1).S (nth c 3).I
theorem mirB_n {n w h : Int} {rs : List PV} (hm : mirB [.int .i64 n, .int .i64 w, .int .i64 h, .list rs] = true) : -1 ≤ n ∧ n ≤ 60 := by
  by_cases hn : n = -1
  · omega
  · simp [mirB, nth_zero, nth_succ, pv_I, pv_L, hn] at hm
    have h1 := hm.1.1
    simp [inB] at h1
    omega
theorem told_n {c n : Int} {t : List UInt8} (h : toldB c t (-1) = true) (h1 : -1 ≤ n) (h2 : n ≤ 60) : toldP c t n := by
  obtain ⟨q1, q2, q3, q4, q5⟩ := toldB_P h
  exact ⟨q1, q2, q3, h1, h2⟩
def c_isClient : FSpec := ⟨[(.rd, .str), (.rd, .agg [.int .i64, .str, .str, .int .i64, .int .i64, .int .i64, .list .str])], [.bool], true, fun ps => (nth ps 0).S.length ≤ 1000000, fun ps => [.bool (cliB (nth ps 0).S (nth ps 1).A)], fun _ => []⟩
theorem k_isClient : FnOk Tryz.prog 45 c_isClient := by
  refine fn_mk [0, 1, 3, 4] [.tmp 4] (env_cons (cs := []) k_tokenOf (env_cons (cs := []) k_isMirror (env_cons (cs := []) k_isTold (env_nil (tyTab_ok []))))) mixed Tryz.func45 rfl (by decide) rfl (by decide) rfl ?_
  intro ps hT hpre W hW
  simp only [c_isClient, TyA, Ty, Tys] at hT hpre
  obtain ⟨_, _, rfl, ⟨key, rfl, hkey⟩, _, _, rfl, ⟨_, rfl, _, _, rfl, ⟨c, rfl, hc⟩, _, _, rfl, ⟨t, rfl, ht⟩, _, _, rfl, ⟨k, rfl, hk⟩, _, _, rfl, ⟨n, rfl, hn⟩, _, _, rfl, ⟨w, rfl, hw⟩, _, _, rfl, ⟨h, rfl, hh⟩, _, _, rfl, ⟨rs, rfl, hrs, trs⟩, rfl⟩, rfl⟩ := hT
  simp only [nth_zero, nth_succ, pv_S] at hpre
  refine hW.vc [(1, [], .take 0 <| .take 1 <| .take 2 <| .take 3 <| .alt 4 (.take 5 <| .take 6 <| .take 7 <| .alt 8 (.take 9 <| .take 10 <| .take 11 <| .take 12 <| .take 13 <| .take 14 <| .take 15 <| .take 16 <| .take 17 <| .take 18 <| .take 19 <| .take 20 <| .alt 21 (.take 22 <| .take 23 <| .alt 24 (.done) .stop) .stop) .stop) .stop)] _ _ ?_
  simp [-List.getD_eq_getElem?_getD, c_isClient, c_isTold, c_isMirror, c_tokenOf]
  exact ⟨by decide +kernel, fun h1 h2 => ⟨hpre, told_n h1 (mirB_n h2).1 (mirB_n h2).2⟩, rfl⟩
def okCli (key : List UInt8) (c : List PV) : Bool := !longN key.length && cliB key c
def c_ClientOK : FSpec := ⟨[(.rd, .str), (.rd, .agg [.int .i64, .str, .str, .int .i64, .int .i64, .int .i64, .list .str])], [.bool], true, fun _ => True, fun ps => [.bool (okCli (nth ps 0).S (nth ps 1).A)], fun _ => []⟩
def c_sClientOK : FSpec := c_ClientOK
theorem k_sClientOK : FnOk Tryz.prog 38 c_sClientOK := by
  refine fn_mk [0, 1, 3, 4] [.tmp 4] (env_cons (cs := []) k_l12Issue (env_cons (cs := []) k_sMirrorOK (env_cons (cs := []) k_l12Ask (env_nil (tyTab_ok []))))) mixed Tryz.func38 rfl (by decide) rfl (by decide) rfl ?_
  intro ps hT hpre W hW
  simp only [c_sClientOK, TyA, Ty, Tys] at hT hpre
  simp only [c_ClientOK, TyA, Ty, Tys] at hT
  obtain ⟨_, _, rfl, ⟨key, rfl, hkey⟩, _, _, rfl, ⟨_, rfl, _, _, rfl, ⟨c, rfl, hc⟩, _, _, rfl, ⟨t, rfl, ht⟩, _, _, rfl, ⟨k, rfl, hk⟩, _, _, rfl, ⟨n, rfl, hn⟩, _, _, rfl, ⟨w, rfl, hw⟩, _, _, rfl, ⟨h, rfl, hh⟩, _, _, rfl, ⟨rs, rfl, hrs, trs⟩, rfl⟩, rfl⟩ := hT
  refine hW.vc [(3, [], .take 0 <| .take 1 <| .take 2 <| .take 3 <| .take 4 <| .take 5 <| .take 6 <| .take 7 <| .alt 8 (.take 9 <| .take 10 <| .take 11 <| .take 12 <| .alt 13 (.take 14 <| .take 15 <| .take 16 <| .take 17 <| .take 18 <| .take 19 <| .take 20 <| .take 21 <| .take 22 <| .take 23 <| .take 24 <| .take 25 <| .alt 26 (.take 27 <| .take 28 <| .alt 29 (.done) .stop) .stop) .stop) .stop)] _ _ ?_
  simp [-List.getD_eq_getElem?_getD, c_sClientOK, c_l12Ask, c_sMirrorOK, c_l12Issue, c_ClientOK, c_isTold, c_isMirror, c_tokenOf, c_isTold, c_isMirror, c_tokenOf]
  refine fun hk => ⟨fun h => ?_, fun h => ⟨by decide +kernel, fun _ => ⟨fun _ h2 h3 => ⟨by omega, told_n (by rw [← told_0]; exact h2) (mirB_n h3).1 (mirB_n h3).2⟩, ?_⟩⟩⟩
  · have : longN key.length = true := by simp [longN]; omega
    simp [okCli, this]
  · have : longN key.length = false := by simp [longN]; omega
    have h' : decide ((key.length : Int) ≤ 65536) = true := decide_eq_true h
    rw [told_0, h']
    simp [okCli, cliB, this, nth_zero, nth_succ, pv_I, pv_S]
def c_exNewClient : FSpec := ⟨[(.rd, .str), (.rd, .int .i64), (.rd, .str)], [.bool], true, fun _ => True, fun _ => [.bool true], fun _ => []⟩
def c_exClientOK : FSpec := ⟨[(.rd, .str), (.rd, .agg [.int .i64, .str, .str, .int .i64, .int .i64, .int .i64, .list .str])], [.bool], true, fun _ => True, fun _ => [.bool true], fun _ => []⟩
end Go.Proofs.YtolgjekokdimoaaGreatDoor
end

section
namespace Go.Proofs.YtolgjekokdimoaaGreatDoor
variable [LaidG]
variable [LaidN 0] [LaidN 1]
variable [LaidN 5]
set_option maxRecDepth 100000
set_option linter.unusedSimpArgs false

def mrC (c : List PV) : MR := ⟨(nth c 3).I, (nth c 4).I, (nth c 5).I, (nth c 6).L⟩
def vwC (v : List PV) : VW := ⟨(nth v 0).I, (nth v 1).I, (nth v 2).B, (nth v 3).I, (nth v 4).I, (nth v 5).L⟩
/-- The token is the one of the view's number. -/
def fitT (key : List UInt8) (c : List PV) (n : Int) (tok : List UInt8) : Bool := tok == tokenL key (nth c 0).I (nth c 1).S n
def caK (b : Bool) (m : MR) (v : VW) : Int := cond b (acceptOf m v).2 16
def caM (b : Bool) (m : MR) (v : VW) : MR := cond b (acceptOf m v).1 m
def caT (b : Bool) (m : MR) (v : VW) (old tok : List UInt8) : List UInt8 := cond b (cond ((acceptOf m v).2 == 0) tok old) old
def accC (b : Bool) (m : MR) (v : VW) (id : Int) (w old tok : List UInt8) : PV := .agg [.int .i64 id, .str w, .str (caT b m v old tok), .int .i64 (caM b m v).n, .int .i64 (caM b m v).w, .int .i64 (caM b m v).h, .list (caM b m v).r]
theorem acc_code (m : MR) (v : VW) : (acceptOf m v).2 = 0 ∨ (acceptOf m v).1 = m := by
  unfold acceptOf
  split
  · exact .inr rfl
  · cases v.u
    · rw [cond_false]
      split
      · exact .inr rfl
      · exact .inl rfl
    · exact .inl rfl
theorem cliB_facts {key : List UInt8} {c n w h : Int} {t k : List UInt8} {rs : List PV} (hc : cliB key [.int .i64 c, .str t, .str k, .int .i64 n, .int .i64 w, .int .i64 h, .list rs] = true) : toldB c t (-1) = true ∧ mirB [.int .i64 n, .int .i64 w, .int .i64 h, .list rs] = true := by
  simp only [cliB, nth_zero, nth_succ, pv_I, pv_S, Bool.and_eq_true] at hc
  exact ⟨hc.1.1, hc.1.2⟩
def c_cloneClient : FSpec := ⟨[(.rd, .agg [.int .i64, .str, .str, .int .i64, .int .i64, .int .i64, .list .str])], [.agg [.int .i64, .str, .str, .int .i64, .int .i64, .int .i64, .list .str]], true, fun ps => (nth (nth ps 0).A 6).L.length ≤ 1048576, fun ps => [nth ps 0], fun _ => []⟩
theorem k_cloneClient : FnOk Tryz.prog 88 c_cloneClient := by
  refine fn_mk [0, 1, 2] [.cell 2 34] (env_cons (cs := []) k_CloneS (env_nil (tyTab_ok []))) mixed Tryz.func88 rfl (by decide) rfl (by decide) rfl ?_
  intro ps hT hpre W hW
  simp only [c_cloneClient, TyA, Ty, Tys] at hT hpre
  obtain ⟨_, _, rfl, ⟨_, rfl, _, _, rfl, ⟨c, rfl, hc⟩, _, _, rfl, ⟨t, rfl, ht⟩, _, _, rfl, ⟨k, rfl, hk⟩, _, _, rfl, ⟨n, rfl, hn⟩, _, _, rfl, ⟨w, rfl, hw⟩, _, _, rfl, ⟨h, rfl, hh⟩, _, _, rfl, ⟨rs, rfl, hrs, trs⟩, rfl⟩, rfl⟩ := hT
  simp only [nth_zero, nth_succ, pv_A, pv_L] at hpre
  refine hW.vc [] _ _ ?_
  simp [-List.getD_eq_getElem?_getD, c_cloneClient, c_CloneS]
  exact hpre
def c_clientAccept : FSpec := ⟨[(.rd, .str), (.rd, .agg [.int .i64, .str, .str, .int .i64, .int .i64, .int .i64, .list .str]), (.rd, .agg [.int .i64, .int .i64, .bool, .int .i64, .int .i64, .list (.agg [.int .i64, .str])]), (.rd, .str)], [.agg [.int .i64, .str, .str, .int .i64, .int .i64, .int .i64, .list .str], .int .i64], true, fun ps => (nth ps 0).S.length ≤ 1000000 ∧ cliB (nth ps 0).S (nth ps 1).A = true ∧ viewB (nth ps 2).A = true,
  fun ps => [accC (fitT (nth ps 0).S (nth ps 1).A (nth (nth ps 2).A 0).I (nth ps 3).S) (mrC (nth ps 1).A) (vwC (nth ps 2).A) (nth (nth ps 1).A 0).I (nth (nth ps 1).A 1).S (nth (nth ps 1).A 2).S (nth ps 3).S, .int .i64 (caK (fitT (nth ps 0).S (nth ps 1).A (nth (nth ps 2).A 0).I (nth ps 3).S) (mrC (nth ps 1).A) (vwC (nth ps 2).A))], fun _ => []⟩
theorem k_clientAccept : FnOk Tryz.prog 47 c_clientAccept := by
  refine fn_mk [0, 1, 2, 3, 5, 6, 8, 9, 10, 11, 12] [.cell 8 34, .tmp 9] (env_cons (cs := []) k_accepted (env_cons (cs := []) k_tokenOf (env_cons (cs := []) k_cloneClient (env_nil (tyTab_ok []))))) mixed Tryz.func47 rfl (by decide) rfl (by decide) rfl ?_
  intro ps hT hpre W hW
  simp only [c_clientAccept, TyA, Ty, Tys] at hT hpre
  obtain ⟨_, _, rfl, ⟨key, rfl, hkey⟩, _, _, rfl, ⟨_, rfl, _, _, rfl, ⟨c, rfl, hc⟩, _, _, rfl, ⟨t, rfl, ht⟩, _, _, rfl, ⟨k, rfl, hk⟩, _, _, rfl, ⟨n, rfl, hn⟩, _, _, rfl, ⟨w, rfl, hw⟩, _, _, rfl, ⟨h, rfl, hh⟩, _, _, rfl, ⟨rs, rfl, hrs, trs⟩, rfl⟩, _, _, rfl, ⟨_, rfl, _, _, rfl, ⟨n', rfl, hn'⟩, _, _, rfl, ⟨f, rfl, hf⟩, _, _, rfl, ⟨u, rfl⟩, _, _, rfl, ⟨w', rfl, hw'⟩, _, _, rfl, ⟨h', rfl, hh'⟩, _, _, rfl, ⟨es, rfl, hes, tes⟩, rfl⟩, _, _, rfl, ⟨tok, rfl, htok⟩, rfl⟩ := hT
  simp only [nth_zero, nth_succ, pv_S, pv_A] at hpre
  refine hW.vc [] _ _ ?_
  simp [-List.getD_eq_getElem?_getD, c_clientAccept, c_cloneClient, c_tokenOf, c_accepted, MR.pv, accC, mrC, vwC]
  obtain ⟨hk, hc, hv⟩ := hpre
  obtain ⟨ht, hm⟩ := cliB_facts hc
  obtain ⟨g1, g2, g3, g4, g5⟩ := mv_facts hm hv
  have tp := told_n (n := n') ht (by omega) (by omega)
  refine ⟨by omega, ⟨hk, tp⟩, fun q => ?_, fun q => ⟨⟨hm, hv⟩, fun q2 => ?_, fun q2 => ?_⟩⟩
  · have hb : fitT key [.int .i64 c, .str t, .str k, .int .i64 n, .int .i64 w, .int .i64 h, .list rs] n' tok = false := by simp [fitT, nth_zero, nth_succ, pv_I, pv_S, q]
    rw [hb]; simp [caT, caM, caK]
  · have hb : fitT key [.int .i64 c, .str t, .str k, .int .i64 n, .int .i64 w, .int .i64 h, .list rs] n' tok = true := by simp [fitT, nth_zero, nth_succ, pv_I, pv_S, q]
    have e := (acc_code ⟨n, w, h, rs⟩ ⟨n', f, u, w', h', es⟩).resolve_left q2
    have q3 := beq_false_of_ne q2
    rw [hb]; simp [caT, caM, caK, e, q2, q3]
  · have hb : fitT key [.int .i64 c, .str t, .str k, .int .i64 n, .int .i64 w, .int .i64 h, .list rs] n' tok = true := by simp [fitT, nth_zero, nth_succ, pv_I, pv_S, q]
    rw [hb]; simp [caT, caM, caK, q2]
def c_l13Take : FSpec := { c_clientAccept with fresh := false }
theorem k_l13Take : FnOk Tryz.prog 40 c_l13Take := by
  refine fn_mk [0, 1, 2, 3, 5, 6, 8, 9, 10, 11] [.cell 8 34, .tmp 9] (env_cons (cs := []) k_l11Accept (env_cons (cs := []) k_l12Issue (env_nil (tyTab_ok [])))) mixed Tryz.func40 rfl (by decide) rfl (by decide) rfl ?_
  intro ps hT hpre W hW
  simp only [c_l13Take, TyA, Ty, Tys] at hT hpre
  simp only [c_clientAccept, TyA, Ty, Tys] at hT hpre
  obtain ⟨_, _, rfl, ⟨key, rfl, hkey⟩, _, _, rfl, ⟨_, rfl, _, _, rfl, ⟨c, rfl, hc⟩, _, _, rfl, ⟨t, rfl, ht⟩, _, _, rfl, ⟨k, rfl, hk⟩, _, _, rfl, ⟨n, rfl, hn⟩, _, _, rfl, ⟨w, rfl, hw⟩, _, _, rfl, ⟨h, rfl, hh⟩, _, _, rfl, ⟨rs, rfl, hrs, trs⟩, rfl⟩, _, _, rfl, ⟨_, rfl, _, _, rfl, ⟨n', rfl, hn'⟩, _, _, rfl, ⟨f, rfl, hf⟩, _, _, rfl, ⟨u, rfl⟩, _, _, rfl, ⟨w', rfl, hw'⟩, _, _, rfl, ⟨h', rfl, hh'⟩, _, _, rfl, ⟨es, rfl, hes, tes⟩, rfl⟩, _, _, rfl, ⟨tok, rfl, htok⟩, rfl⟩ := hT
  simp only [nth_zero, nth_succ, pv_S, pv_A] at hpre
  refine hW.vc [] _ _ ?_
  simp [-List.getD_eq_getElem?_getD, c_l13Take, c_l12Issue, c_l11Accept, c_clientAccept, c_tokenOf, c_accepted, c_clientAccept, c_tokenOf, c_accepted, MR.pv, accC, mrC, vwC]
  obtain ⟨hk, hc, hv⟩ := hpre
  obtain ⟨ht, hm⟩ := cliB_facts hc
  obtain ⟨g1, g2, g3, g4, g5⟩ := mv_facts hm hv
  have tp := told_n (n := n') ht (by omega) (by omega)
  refine ⟨⟨hk, tp⟩, fun q => ?_, fun q => ⟨⟨hm, hv⟩, fun q2 => ?_, fun q2 => ?_⟩⟩
  · have hb : fitT key [.int .i64 c, .str t, .str k, .int .i64 n, .int .i64 w, .int .i64 h, .list rs] n' tok = false := by simp [fitT, nth_zero, nth_succ, pv_I, pv_S, q]
    rw [hb]; simp [caT, caM, caK]
  · have hb : fitT key [.int .i64 c, .str t, .str k, .int .i64 n, .int .i64 w, .int .i64 h, .list rs] n' tok = true := by simp [fitT, nth_zero, nth_succ, pv_I, pv_S, q]
    have e := (acc_code ⟨n, w, h, rs⟩ ⟨n', f, u, w', h', es⟩).resolve_left q2
    have q3 := beq_false_of_ne q2
    rw [hb]; simp [caT, caM, caK, e, q2, q3]
  · have hb : fitT key [.int .i64 c, .str t, .str k, .int .i64 n, .int .i64 w, .int .i64 h, .list rs] n' tok = true := by simp [fitT, nth_zero, nth_succ, pv_I, pv_S, q]
    rw [hb]; simp [caT, caM, caK, q2]
def c_l13Own : FSpec := ⟨[(.rd, .agg [.int .i64, .str, .str, .int .i64, .int .i64, .int .i64, .list .str])], [.agg [.int .i64, .str, .str, .int .i64, .int .i64, .int .i64, .list .str]], true, fun ps => (nth (nth ps 0).A 6).L.length ≤ 1048576, fun ps => [nth ps 0], fun _ => []⟩
theorem k_l13Own : FnOk Tryz.prog 41 c_l13Own := by
  refine fn_mk [0, 1, 2] [.cell 2 34] (env_cons (cs := []) k_l11Own (env_nil (tyTab_ok []))) mixed Tryz.func41 rfl (by decide) rfl (by decide) rfl ?_
  intro ps hT hpre W hW
  simp only [c_l13Own, TyA, Ty, Tys] at hT hpre
  obtain ⟨_, _, rfl, ⟨_, rfl, _, _, rfl, ⟨c, rfl, hc⟩, _, _, rfl, ⟨t, rfl, ht⟩, _, _, rfl, ⟨k, rfl, hk⟩, _, _, rfl, ⟨n, rfl, hn⟩, _, _, rfl, ⟨w, rfl, hw⟩, _, _, rfl, ⟨h, rfl, hh⟩, _, _, rfl, ⟨rs, rfl, hrs, trs⟩, rfl⟩, rfl⟩ := hT
  simp only [nth_zero, nth_succ, pv_A, pv_L] at hpre
  refine hW.vc [] _ _ ?_
  simp [-List.getD_eq_getElem?_getD, c_l13Own, c_l11Own]
  exact hpre

/-- What ClientAccept answers. -/
def CAB (key : List UInt8) (c v : List PV) (tok : List UInt8) : Bool := !longB key tok && cliB key c && viewB v
def CAK (key : List UInt8) (c v : List PV) (tok : List UInt8) : Int := cond (longB key tok) 2 (cond (cliB key c && viewB v) (caK (fitT key c (nth v 0).I tok) (mrC c) (vwC v)) 1)
def CAI (key : List UInt8) (c v : List PV) (tok : List UInt8) : Int := cond (CAB key c v tok) (nth c 0).I 0
def CAW (key : List UInt8) (c v : List PV) (tok : List UInt8) : List UInt8 := cond (CAB key c v tok) (nth c 1).S []
def CAT (key : List UInt8) (c v : List PV) (tok : List UInt8) : List UInt8 := cond (CAB key c v tok) (caT (fitT key c (nth v 0).I tok) (mrC c) (vwC v) (nth c 2).S tok) []
def CAM (key : List UInt8) (c v : List PV) (tok : List UInt8) : MR := cond (CAB key c v tok) (caM (fitT key c (nth v 0).I tok) (mrC c) (vwC v)) MR.no
theorem CAM_len (key : List UInt8) (c v : List PV) (tok : List UInt8) (hc : c = [.int .i64 (nth c 0).I, .str (nth c 1).S, .str (nth c 2).S, .int .i64 (nth c 3).I, .int .i64 (nth c 4).I, .int .i64 (nth c 5).I, .list (nth c 6).L]) (hv : v = [.int .i64 (nth v 0).I, .int .i64 (nth v 1).I, .bool (nth v 2).B, .int .i64 (nth v 3).I, .int .i64 (nth v 4).I, .list (nth v 5).L]) : (CAM key c v tok).r.length ≤ 10 := by
  unfold CAM
  cases hb : CAB key c v tok with
  | false => simp [MR.no]
  | true =>
    simp only [CAB, Bool.and_eq_true] at hb
    obtain ⟨⟨_, h1⟩, h2⟩ := hb
    rw [hc] at h1
    rw [hv] at h2
    obtain ⟨_, hm⟩ := cliB_facts h1
    obtain ⟨g1, g2, g3, g4, g5⟩ := mv_facts hm h2
    rw [cond_true]
    unfold caM
    cases fitT key c (nth v 0).I tok with
    | false => exact g5
    | true => exact acc_len (m := mrC c) (v := vwC v) hm h2
theorem ca_long {key tok : List UInt8} {c v : List PV} (h : longB key tok = true) : CAI key c v tok = 0 ∧ CAW key c v tok = [] ∧ CAT key c v tok = [] ∧ CAM key c v tok = MR.no ∧ CAK key c v tok = 2 := by
  simp [CAI, CAW, CAT, CAM, CAK, CAB, h]
theorem ca_bad {key tok : List UInt8} {c v : List PV} (h : longB key tok = false) (h2 : cliB key c = false ∨ viewB v = false) : CAI key c v tok = 0 ∧ CAW key c v tok = [] ∧ CAT key c v tok = [] ∧ CAM key c v tok = MR.no ∧ CAK key c v tok = 1 := by
  rcases h2 with h2 | h2 <;> simp [CAI, CAW, CAT, CAM, CAK, CAB, h, h2]
theorem ca_ok {key tok : List UInt8} {c v : List PV} (h : longB key tok = false) (h2 : cliB key c = true) (h3 : viewB v = true) : CAI key c v tok = (nth c 0).I ∧ CAW key c v tok = (nth c 1).S ∧ CAT key c v tok = caT (fitT key c (nth v 0).I tok) (mrC c) (vwC v) (nth c 2).S tok ∧ CAM key c v tok = caM (fitT key c (nth v 0).I tok) (mrC c) (vwC v) ∧ CAK key c v tok = caK (fitT key c (nth v 0).I tok) (mrC c) (vwC v) := by
  simp [CAI, CAW, CAT, CAM, CAK, CAB, h, h2, h3]
def c_ClientAccept : FSpec := ⟨[(.rd, .str), (.rd, .agg [.int .i64, .str, .str, .int .i64, .int .i64, .int .i64, .list .str]), (.rd, .agg [.int .i64, .int .i64, .bool, .int .i64, .int .i64, .list (.agg [.int .i64, .str])]), (.rd, .str)], [.agg [.int .i64, .str, .str, .int .i64, .int .i64, .int .i64, .list .str], .int .i64], true, fun _ => True,
  fun ps => [.agg [.int .i64 (CAI (nth ps 0).S (nth ps 1).A (nth ps 2).A (nth ps 3).S), .str (CAW (nth ps 0).S (nth ps 1).A (nth ps 2).A (nth ps 3).S), .str (CAT (nth ps 0).S (nth ps 1).A (nth ps 2).A (nth ps 3).S), .int .i64 (CAM (nth ps 0).S (nth ps 1).A (nth ps 2).A (nth ps 3).S).n, .int .i64 (CAM (nth ps 0).S (nth ps 1).A (nth ps 2).A (nth ps 3).S).w, .int .i64 (CAM (nth ps 0).S (nth ps 1).A (nth ps 2).A (nth ps 3).S).h, .list (CAM (nth ps 0).S (nth ps 1).A (nth ps 2).A (nth ps 3).S).r], .int .i64 (CAK (nth ps 0).S (nth ps 1).A (nth ps 2).A (nth ps 3).S)], fun _ => []⟩
theorem k_ClientAccept : FnOk Tryz.prog 12 c_ClientAccept := by
  refine fn_mk [0, 1, 2, 3, 5, 6, 8, 9] [.cell 8 34, .tmp 9] (env_cons (cs := []) k_clientAccept (env_cons (cs := []) k_isView (env_cons (cs := []) k_isClient (env_cons (cs := []) k_isLong (env_nil (tyTab_ok [])))))) mixed Tryz.func12 rfl (by decide) rfl (by decide) rfl ?_
  intro ps hT hpre W hW
  simp only [c_ClientAccept, TyA, Ty, Tys] at hT hpre
  obtain ⟨_, _, rfl, ⟨key, rfl, hkey⟩, _, _, rfl, ⟨_, rfl, _, _, rfl, ⟨c, rfl, hc⟩, _, _, rfl, ⟨t, rfl, ht⟩, _, _, rfl, ⟨k, rfl, hk⟩, _, _, rfl, ⟨n, rfl, hn⟩, _, _, rfl, ⟨w, rfl, hw⟩, _, _, rfl, ⟨h, rfl, hh⟩, _, _, rfl, ⟨rs, rfl, hrs, trs⟩, rfl⟩, _, _, rfl, ⟨_, rfl, _, _, rfl, ⟨n', rfl, hn'⟩, _, _, rfl, ⟨f, rfl, hf⟩, _, _, rfl, ⟨u, rfl⟩, _, _, rfl, ⟨w', rfl, hw'⟩, _, _, rfl, ⟨h', rfl, hh'⟩, _, _, rfl, ⟨es, rfl, hes, tes⟩, rfl⟩, _, _, rfl, ⟨tok, rfl, htok⟩, rfl⟩ := hT
  refine hW.vc [] _ _ ?_
  simp [-List.getD_eq_getElem?_getD, c_ClientAccept, c_isLong, c_isClient, c_isView, c_clientAccept, accC]
  refine fun _ _ => ⟨by decide, fun q => ?_, fun q1 q2 => ⟨?_, fun q => ?_, fun q3 q4 => ⟨⟨?_, q3, q4⟩, ?_⟩⟩⟩
  · have hb : longB key tok = true := by rcases q with q | q <;> simp [longB, q]
    obtain ⟨e1, e2, e3, e4, e5⟩ := ca_long (c := [.int .i64 c, .str t, .str k, .int .i64 n, .int .i64 w, .int .i64 h, .list rs]) (v := [.int .i64 n', .int .i64 f, .bool u, .int .i64 w', .int .i64 h', .list es]) hb
    rw [e1, e2, e3, e4, e5]; simp [MR.no]
  · simp [longN] at q1; omega
  · have hb : longB key tok = false := by simp [longB, q1, q2]
    obtain ⟨e1, e2, e3, e4, e5⟩ := ca_bad (c := [.int .i64 c, .str t, .str k, .int .i64 n, .int .i64 w, .int .i64 h, .list rs]) (v := [.int .i64 n', .int .i64 f, .bool u, .int .i64 w', .int .i64 h', .list es]) hb q
    rw [e1, e2, e3, e4, e5]; simp [MR.no]
  · simp [longN] at q1; omega
  · have hb : longB key tok = false := by simp [longB, q1, q2]
    obtain ⟨e1, e2, e3, e4, e5⟩ := ca_ok (c := [.int .i64 c, .str t, .str k, .int .i64 n, .int .i64 w, .int .i64 h, .list rs]) (v := [.int .i64 n', .int .i64 f, .bool u, .int .i64 w', .int .i64 h', .list es]) hb q3 q4
    rw [e1, e2, e3, e4, e5]
    exact ⟨⟨rfl, rfl, rfl, rfl, rfl, rfl, rfl⟩, rfl⟩
def c_sClientAccept : FSpec := c_ClientAccept
theorem k_sClientAccept : FnOk Tryz.prog 9 c_sClientAccept := by
  refine fn_mk [0, 1, 2, 3, 5, 6, 8, 9, 10, 11] [.cell 8 34, .tmp 9] (env_cons (cs := []) k_l13Own (env_cons (cs := []) k_l13Take (env_cons (cs := []) k_sViewOK (env_cons (cs := []) k_sClientOK (env_nil (tyTab_ok [])))))) mixed Tryz.func9 rfl (by decide) rfl (by decide) rfl ?_
  intro ps hT hpre W hW
  simp only [c_sClientAccept, TyA, Ty, Tys] at hT hpre
  simp only [c_ClientAccept, TyA, Ty, Tys] at hT
  obtain ⟨_, _, rfl, ⟨key, rfl, hkey⟩, _, _, rfl, ⟨_, rfl, _, _, rfl, ⟨c, rfl, hc⟩, _, _, rfl, ⟨t, rfl, ht⟩, _, _, rfl, ⟨k, rfl, hk⟩, _, _, rfl, ⟨n, rfl, hn⟩, _, _, rfl, ⟨w, rfl, hw⟩, _, _, rfl, ⟨h, rfl, hh⟩, _, _, rfl, ⟨rs, rfl, hrs, trs⟩, rfl⟩, _, _, rfl, ⟨_, rfl, _, _, rfl, ⟨n', rfl, hn'⟩, _, _, rfl, ⟨f, rfl, hf⟩, _, _, rfl, ⟨u, rfl⟩, _, _, rfl, ⟨w', rfl, hw'⟩, _, _, rfl, ⟨h', rfl, hh'⟩, _, _, rfl, ⟨es, rfl, hes, tes⟩, rfl⟩, _, _, rfl, ⟨tok, rfl, htok⟩, rfl⟩ := hT
  refine hW.vc [] _ _ ?_
  simp [-List.getD_eq_getElem?_getD, c_sClientAccept, c_sClientOK, c_sViewOK, c_l13Take, c_l13Own, c_ClientAccept, c_ClientOK, c_isView, c_clientAccept, c_clientAccept, c_ClientOK, c_isView, accC]
  refine fun _ _ => ⟨fun q => ?_, fun q1 q2 => ?_⟩
  · have hb : longB key tok = true := by simp [longB, longN]; omega
    obtain ⟨e1, e2, e3, e4, e5⟩ := ca_long (c := [.int .i64 c, .str t, .str k, .int .i64 n, .int .i64 w, .int .i64 h, .list rs]) (v := [.int .i64 n', .int .i64 f, .bool u, .int .i64 w', .int .i64 h', .list es]) hb
    rw [e1, e2, e3, e4, e5]; simp [MR.no]
  · have hb : longB key tok = false := by simp [longB, longN]; omega
    have hn : longN key.length = false := by simp [longN]; omega
    have ho : okCli key [.int .i64 c, .str t, .str k, .int .i64 n, .int .i64 w, .int .i64 h, .list rs] = cliB key [.int .i64 c, .str t, .str k, .int .i64 n, .int .i64 w, .int .i64 h, .list rs] := by simp [okCli, hn]
    rw [ho]
    refine ⟨fun q => ?_, fun q3 q4 => ?_⟩
    · obtain ⟨e1, e2, e3, e4, e5⟩ := ca_bad (c := [.int .i64 c, .str t, .str k, .int .i64 n, .int .i64 w, .int .i64 h, .list rs]) (v := [.int .i64 n', .int .i64 f, .bool u, .int .i64 w', .int .i64 h', .list es]) hb q
      rw [e1, e2, e3, e4, e5]; simp [MR.no]
    · have hl := CAM_len key [.int .i64 c, .str t, .str k, .int .i64 n, .int .i64 w, .int .i64 h, .list rs] [.int .i64 n', .int .i64 f, .bool u, .int .i64 w', .int .i64 h', .list es] tok rfl rfl
      obtain ⟨e1, e2, e3, e4, e5⟩ := ca_ok (c := [.int .i64 c, .str t, .str k, .int .i64 n, .int .i64 w, .int .i64 h, .list rs]) (v := [.int .i64 n', .int .i64 f, .bool u, .int .i64 w', .int .i64 h', .list es]) hb q3 q4
      rw [e4] at hl
      rw [e1, e2, e3, e4, e5]
      simp only [nth_zero, nth_succ, pv_I, pv_S] at hl ⊢
      generalize caM (fitT key [.int .i64 c, .str t, .str k, .int .i64 n, .int .i64 w, .int .i64 h, .list rs] n' tok) (mrC [.int .i64 c, .str t, .str k, .int .i64 n, .int .i64 w, .int .i64 h, .list rs]) (vwC [.int .i64 n', .int .i64 f, .bool u, .int .i64 w', .int .i64 h', .list es]) = M at *
      refine ⟨⟨by omega, q3, q4⟩, by omega, ?_⟩
      simp only [and_self]

end Go.Proofs.YtolgjekokdimoaaGreatDoor
end

section
namespace Go.Proofs.YtolgjekokdimoaaGreatDoor
variable [LaidG]
variable [LaidN 0] [LaidN 1]
variable [LaidN 5]
set_option maxRecDepth 100000
set_option linter.unusedSimpArgs false

def c_exClientAccept : FSpec := ⟨[(.rd, .str), (.rd, .agg [.int .i64, .str, .str, .int .i64, .int .i64, .int .i64, .list .str]), (.rd, .agg [.int .i64, .int .i64, .bool, .int .i64, .int .i64, .list (.agg [.int .i64, .str])]), (.rd, .str)], [.bool], true, fun _ => True, fun _ => [.bool true], fun _ => []⟩
set_option maxHeartbeats 0 in
theorem k_exClientAccept : FnOk Tryz.prog 3 c_exClientAccept := by
  refine fn_mk [0, 1, 2, 3, 5, 6, 8, 9, 10, 11, 12, 13, 14, 15, 16, 17, 18, 19, 20] [.tmp 8] (env_cons (cs := []) k_heldClient (env_cons (cs := []) k_markView (env_cons (cs := []) k_markClient (env_cons (cs := []) k_eqView (env_cons (cs := []) k_eqClient (env_cons (cs := []) k_ClientAccept (env_cons (cs := []) k_sClientAccept (env_cons (cs := []) k_toView (env_cons (cs := []) k_toClient (env_cons (cs := []) k_szView (env_cons (cs := []) k_szClient (env_nil (tyTab_ok []))))))))))))) mixed Tryz.func3 rfl (by decide) rfl (by decide) rfl ?_
  intro ps hT hpre W hW
  simp only [c_exClientAccept, TyA, Ty, Tys] at hT hpre
  obtain ⟨_, _, rfl, ⟨key, rfl, hkey⟩, _, _, rfl, ⟨_, rfl, _, _, rfl, ⟨c, rfl, hc⟩, _, _, rfl, ⟨t, rfl, ht⟩, _, _, rfl, ⟨k, rfl, hk⟩, _, _, rfl, ⟨n, rfl, hn⟩, _, _, rfl, ⟨w, rfl, hw⟩, _, _, rfl, ⟨h, rfl, hh⟩, _, _, rfl, ⟨rs, rfl, hrs, trs⟩, rfl⟩, _, _, rfl, ⟨_, rfl, _, _, rfl, ⟨n', rfl, hn'⟩, _, _, rfl, ⟨f, rfl, hf⟩, _, _, rfl, ⟨u, rfl⟩, _, _, rfl, ⟨w', rfl, hw'⟩, _, _, rfl, ⟨h', rfl, hh'⟩, _, _, rfl, ⟨es, rfl, hes, tes⟩, rfl⟩, _, _, rfl, ⟨tok, rfl, htok⟩, rfl⟩ := hT
  refine hW.vc [(12, [11], .take 0 <| .take 1 <| .take 3 <| .take 5 <| .alt 2 (.alt 4 (.alt 6 (.take 7 <| .take 8 <| .alt 9 (.alt 10 (.alt 11 (.alt 12 (.done) .stop) .stop) .stop) (.alt 10 (.alt 9 (.alt 11 (.alt 12 (.done) .stop) .stop) (.alt 11 (.take 9 <| .alt 12 (.done) .stop) .stop)) .stop)) (.alt 10 (.alt 6 (.take 7 <| .take 8 <| .alt 9 (.alt 11 (.alt 12 (.done) .stop) .stop) (.alt 11 (.take 9 <| .alt 12 (.done) .stop) .stop)) .stop) .stop)) (.alt 10 (.alt 4 (.alt 6 (.take 7 <| .take 8 <| .alt 9 (.alt 11 (.alt 12 (.done) .stop) .stop) (.alt 11 (.take 9 <| .alt 12 (.done) .stop) .stop)) .stop) .stop) .stop)) (.alt 10 (.alt 2 (.alt 4 (.alt 6 (.take 7 <| .take 8 <| .alt 9 (.alt 11 (.alt 12 (.done) .stop) .stop) (.alt 11 (.take 9 <| .alt 12 (.done) .stop) .stop)) .stop) .stop) .stop) .stop)), (18, [], .take 0 <| .take 1 <| .alt 2 (.alt 3 (.take 4 <| .done) .stop) .stop), (20, [], .take 0 <| .take 1 <| .alt 2 (.alt 3 (.take 4 <| .done) .stop) .stop), (35, [11], .take 0 <| .take 1 <| .take 3 <| .take 5 <| .alt 2 (.alt 4 (.alt 6 (.take 7 <| .take 8 <| .alt 9 (.alt 10 (.alt 11 (.alt 12 (.done) .stop) .stop) .stop) (.alt 10 (.alt 9 (.alt 11 (.alt 12 (.done) .stop) .stop) (.alt 11 (.take 9 <| .alt 12 (.done) .stop) .stop)) .stop)) (.alt 10 (.alt 6 (.take 7 <| .take 8 <| .alt 9 (.alt 11 (.alt 12 (.done) .stop) .stop) (.alt 11 (.take 9 <| .alt 12 (.done) .stop) .stop)) .stop) .stop)) (.alt 10 (.alt 4 (.alt 6 (.take 7 <| .take 8 <| .alt 9 (.alt 11 (.alt 12 (.done) .stop) .stop) (.alt 11 (.take 9 <| .alt 12 (.done) .stop) .stop)) .stop) .stop) .stop)) (.alt 10 (.alt 2 (.alt 4 (.alt 6 (.take 7 <| .take 8 <| .alt 9 (.alt 11 (.alt 12 (.done) .stop) .stop) (.alt 11 (.take 9 <| .alt 12 (.done) .stop) .stop)) .stop) .stop) .stop) .stop))] _ _ ?_
  simp (maxSteps := 5000000) [-List.getD_eq_getElem?_getD, c_exClientAccept, c_szClient, c_szView, c_toClient, c_toView, c_sClientAccept, c_ClientAccept, c_eqClient, c_eqView, c_markClient, c_markView, c_heldClient, c_ClientAccept, VW.pv, eqCli_refl, eqVw_refl, heldS_mark, markS_len, markR_len]
  intro hk hk2 ht ht2 h1
  have hz := szC2_le (l := 1048576) (a := t.length) (b := k.length) (es := rs) (by omega)
  have h3 := hz.2.2 h1
  refine ⟨h1, fun h4 => ?_⟩
  have h5 := (szGs_le rowLen_nn (es := es) (l := szCli [.int .i64 c, .str t, .str k, .int .i64 n, .int .i64 w, .int .i64 h, .list rs] 1048576) h1).2.2 h4
  have h6 : szCli [.int .i64 c, .str t, .str k, .int .i64 n, .int .i64 w, .int .i64 h, .list rs] 1048576 ≤ 1048576 := hz.1
  have h7 := CAM_len key [.int .i64 c, .str t, .str k, .int .i64 n, .int .i64 w, .int .i64 h, .list rs] [.int .i64 n', .int .i64 f, .bool u, .int .i64 w', .int .i64 h', .list es] tok rfl rfl
  generalize (CAM key [.int .i64 c, .str t, .str k, .int .i64 n, .int .i64 w, .int .i64 h, .list rs] [.int .i64 n', .int .i64 f, .bool u, .int .i64 w', .int .i64 h', .list es] tok).r.length = L at *
  exact ⟨by decide +kernel, by omega, by omega, by omega, by omega, by decide +kernel, by omega, by decide +kernel, by omega, by omega, ⟨by omega, by omega⟩, by omega, fun _ => ⟨by omega, by omega, fun _ => ⟨by decide +kernel, by omega, by omega, by omega, by omega⟩⟩⟩

end Go.Proofs.YtolgjekokdimoaaGreatDoor
end

section
namespace Go.Proofs.YtolgjekokdimoaaGreatDoor
variable [LaidG]
set_option linter.unusedVariables false

def ptyOf (g : Bool) (l : List PTy) : PTy := if g then .agg l else l.headD .opq

mutual
/-- The types of data: their leaves. -/
inductive Dat (P : Program) : Nat → Bool → List PTy → Prop
  | int {t k} : P.underlying t = some (.int k) → t < P.types.size → Dat P t false [.int k]
  | bool {t} : P.underlying t = some .bool → t < P.types.size → Dat P t false [.bool]
  | str {t} : P.underlying t = some .string → t < P.types.size → Dat P t false [.str]
  | slice {t e g l} : P.underlying t = some (.slice e) → Dat P e g l → P.cellsOf e = l.length → 0 < l.length → 0 < P.bytesOf e → t < P.types.size → Dat P t false [.list (ptyOf g l)]
  | struct {t fs l} : P.underlying t = some (.struct fs) → Dats P (fs.toList.map (·.type)) l → P.cellsOf t = l.length → t < P.types.size → Dat P t true l
inductive Dats (P : Program) : List Nat → List PTy → Prop
  | nil : Dats P [] []
  | cons {t ts g l m} : Dat P t g l → P.cellsOf t = l.length → Dats P ts m → Dats P (t :: ts) (l ++ m)
end

section
variable {H : Type} {enc : TypeId × Value → H} {P : Program} {w : World} {base : Nat} {spare : Nat → Bool}

theorem Dat.lt {t : Nat} {g : Bool} {l : List PTy} (h : Dat P t g l) : t < P.types.size := by
  cases h <;> assumption

theorem dat_leaf {t : Nat} {l : List PTy} (h : Dat P t false l) : ∃ T, l = [T] ∧ ∀ ts, T ≠ .agg ts := by
  cases h <;> exact ⟨_, rfl, by simp⟩

theorem cells_get {base : Nat} {a : Addr} {n : Nat} {cs : List Value} (h : w.cells? base a n = some cs) : cs.length = n ∧ ∀ i, i < n → w.cell? (a.add i) = cs[i]? := by
  unfold World.cells? at h
  split at h
  · refine ⟨by simpa using mapM_some_length h, fun i hi => ?_⟩
    have := mapM_some_get h i i (by simp [hi])
    exact this
  · cases h

theorem lim_reach {n : Nat} (h : n ≤ reachBytes) : n ≤ LIM := by
  unfold reachBytes at h; unfold LIM; omega

/-- Elements, one after the other. -/
theorem elems_lv {g : Bool} {l : List PTy} {T : PTy} (hT : T = ptyOf g l) (hg : g = false → ∃ T, l = [T] ∧ ∀ ts, T ≠ .agg ts) : ∀ (css : List (List Value)), (∀ cs ∈ css, ∃ qs f, Lv w l qs cs f) →
    ∃ es f, es.length = css.length ∧ (∀ e ∈ es, Shp T e) ∧ Lv w (flatT T es.length) (flatP es) css.flatten f ∧ T.leaves = l
  | [], _ => ⟨[], [], rfl, by simp, by simpa [flatT, flatP] using Lv.nil, by
      subst hT
      cases g with
      | true => rfl
      | false => obtain ⟨T, rfl, h⟩ := hg rfl; cases T <;> first | rfl | exact absurd rfl (h _)⟩
  | cs :: css, h => by
    obtain ⟨es, f, e1, e2, e3, e4⟩ := elems_lv hT hg css fun x hx => h x (by simp [hx])
    obtain ⟨qs, f1, hq⟩ := h cs (by simp)
    have key : ∃ e, Shp T e ∧ e.leaves = qs := by
      subst hT
      cases g with
      | true => exact ⟨.agg qs, ⟨qs, rfl, hq.lens.1.symm⟩, rfl⟩
      | false =>
        obtain ⟨T, rfl, hn⟩ := hg rfl
        have hl := hq.lens.1
        match qs, hl with
        | [q], _ =>
          have hne := hq.leaves_of q (by simp)
          refine ⟨q, ?_, ?_⟩
          · show Shp T q
            cases T <;> first | exact hne | exact absurd rfl (hn _)
          · cases q <;> first | rfl | exact absurd rfl (hne _)
    obtain ⟨e, k1, k2⟩ := key
    refine ⟨e :: es, f1 ++ f, by simp [e1], ?_, ?_, e4⟩
    · intro x hx; rcases List.mem_cons.1 hx with rfl | hx
      · exact k1
      · exact e2 x hx
    · have q1 : flatT T (e :: es).length = T.leaves ++ flatT T es.length := by simp [flatT, List.replicate_succ]
      have q2 : flatP (e :: es) = e.leaves ++ flatP es := by simp [flatP]
      rw [q1, q2, e4, k2, List.flatten_cons]
      exact hq.append e3

theorem wf_inR {k : IntKind} {n : Int} (h : (Lit.int k n).wf = true) : inR k n := by
  unfold Lit.wf at h; unfold inR
  simpa only [Bool.and_eq_true, decide_eq_true_eq] using h

theorem row_take {c : Array Value} {ci : List Value} {o k : Nat} (h1 : ci.length = k) (h2 : ∀ j, j < k → c[o + j]? = ci[j]?) : (c.toList.drop o).take k = ci := by
  apply List.ext_getElem?
  intro j
  by_cases hj : j < k
  · rw [List.getElem?_take, if_pos hj, List.getElem?_drop, ← h2 j hj]; simp
  · rw [List.getElem?_take, if_neg hj, List.getElem?_eq_none (by omega)]

theorem rows_take {c : Array Value} {o k : Nat} : ∀ (css : List (List Value)) (i0 : Nat), (∀ i ci, css[i]? = some ci → ci.length = k ∧ ∀ j, j < k → c[o + (i0 + i) * k + j]? = ci[j]?) → (c.toList.drop (o + i0 * k)).take css.flatten.length = css.flatten
  | [], i0, _ => by simp
  | ci :: css, i0, h => by
    obtain ⟨h1, h2⟩ := h 0 ci (by simp)
    have ih := rows_take (c := c) (o := o) (k := k) css (i0 + 1) fun i cj hi => by
      have := h (i + 1) cj (by simpa using hi)
      rw [show i0 + (i + 1) = i0 + 1 + i by omega] at this
      exact this
    simp only [List.flatten_cons, List.length_append]
    rw [List.take_add, List.drop_drop, h1]
    congr 1
    · exact row_take h1 fun j hj => by simpa using h2 j hj
    · rw [show o + i0 * k + k = o + (i0 + 1) * k by rw [Nat.add_mul]; omega]
      exact ih

theorem weightsAll_mem {e : TypeId} : ∀ {ds : List (DataW H)} {d : DataW H}, d ∈ ds → ∀ y ∈ d.weights P e, y ∈ DataW.weightsAll P e ds
  | x :: ds, d, hd, y, hy => by
    simp only [DataW.weightsAll, List.mem_append]
    rcases List.mem_cons.1 hd with rfl | hd
    · exact .inl hy
    · exact .inr (weightsAll_mem hd y hy)

theorem dats_lv {n : Nat} {cs : List Value} (ih : ∀ t g l cs x, Dat P t g l → DataW.trod enc P w base spare true n t cs = some x → (∀ y ∈ x.1.weights P t, y ≤ reachBytes) → ∃ qs f, Lv w l qs cs f) : ∀ (fs : List Field) (l : List PTy) (xs : List (DataW H × List MemPlace)) (o : Nat), Dats P (fs.map Field.type) l →
  (∀ (j : Nat) (f : Field), fs[j]? = some f → f.offset = o + ((fs.take j).map fun (f : Field) => P.cellsOf f.type).sum) → (∀ (j : Nat) (f : Field), fs[j]? = some f → DataW.trod enc P w base spare true n f.type ((cs.drop f.offset).take (P.cellsOf f.type)) = xs[j]?) → xs.length = fs.length →
    (∀ y ∈ DataW.weightsEach P (fs.map Field.type) (xs.map (·.1)), y ≤ reachBytes) → ∃ qs f, Lv w l qs ((cs.drop o).take l.length) f
  | [], l, xs, o, hd, hof, hx, hlen, hw => by cases hd; exact ⟨[], [], by simpa using Lv.nil⟩
  | f :: fs, l, xs, o, hd, hof, hx, hlen, hw => by
    cases xs with
    | nil => simp at hlen
    | cons x xs =>
      simp only [List.map_cons] at hd hw
      cases hd with
      | @cons t ts g l1 m h1 h2 h3 =>
        have e0 := hof 0 f (by simp)
        simp only [List.take_zero, List.map_nil, List.sum_nil, Nat.add_zero] at e0
        have x0 := hx 0 f (by simp)
        simp only [List.getElem?_cons_zero, e0, h2] at x0
        simp only [DataW.weightsEach, List.mem_append] at hw
        obtain ⟨q1, f1, hq1⟩ := ih _ _ _ _ _ h1 x0 (fun y hy => hw y (.inl hy))
        obtain ⟨q2, f2, hq2⟩ := dats_lv ih fs m xs (o + l1.length) h3 (fun j f' hj => by
          have := hof (j + 1) f' (by simpa using hj)
          simp only [List.take_succ_cons, List.map_cons, List.sum_cons, h2] at this
          omega) (fun j f' hj => by simpa using hx (j + 1) f' (by simpa using hj)) (by simpa using hlen) (fun y hy => hw y (.inr hy))
        refine ⟨q1 ++ q2, f1 ++ f2, ?_⟩
        rw [List.length_append, List.take_add, List.drop_drop]
        exact hq1.append hq2

/-- What is read as data lies in memory as such. -/
theorem trod_lv (K : Kids P (· < P.types.size)) (hdt : ∀ t g l, Dat P t g l → t < P.types.size) : ∀ (n : Nat) (t : Nat) (g : Bool) (l : List PTy) (cs : List Value) (x : DataW H × List MemPlace), Dat P t g l → DataW.trod enc P w base spare true n t cs = some x → (∀ y ∈ x.1.weights P t, y ≤ reachBytes) → ∃ qs f, Lv w l qs cs f := by
  intro n
  induction n with
  | zero => intro t g l cs x _ h; simp [DataW.trod] at h
  | succ n ih =>
    intro t g l cs x hd h hw
    have hd0 := hd
    cases hd with
    | int ht _ =>
      obtain ⟨m, rfl, rfl, hwf⟩ := DataW.trod_int ht h
      exact ⟨[.int _ m], [], .int (wf_inR hwf) .nil⟩
    | bool ht _ =>
      obtain ⟨b, rfl, rfl⟩ := DataW.trod_bool ht h
      exact ⟨[.bool b], [], .bool .nil⟩
    | str ht _ =>
      obtain ⟨b, rfl, rfl, hl⟩ := DataW.trod_string ht h
      have := hw b.data.toList.length (by simp [DataW.weights])
      refine ⟨[.str b.data.toList], [], ?_⟩
      have hL := Lv.str (w := w) (lim_reach this) (Lv.nil (w := w))
      simpa using hL
    | @slice _ e g' l' ht he hc hpos hby _ =>
      rcases DataW.trod_slice ht h with ⟨rfl, rfl⟩ | ⟨a, len, cap, elems, rest, m, hm, rfl, rfl, hb, hle, hcap, hel, hget, _⟩
      · exact ⟨[.list []], [], .empty .nil⟩
      · have hmn : m = n := by omega
        subst hmn
        simp only [DataW.weights, ht, List.length_map, List.mem_cons, List.mem_append] at hw
        have hlim : len ≤ LIM := by
          have h1 := lim_reach (hw _ (.inl rfl))
          have h2 : elems.length * 1 ≤ (elems.length + rest.length) * P.bytesOf e := Nat.mul_le_mul (by omega) hby
          omega
        cases len with
        | zero => exact ⟨[.list []], [], .empty .nil⟩
        | succ len =>
          have hcell : ∀ i, i < len + 1 → ∃ ci y, w.cells? base (a.add (i * l'.length)) l'.length = some ci ∧ elems[i]? = some y ∧ ∃ qs f, Lv w l' qs ci f := by
            intro i hi
            have h1 := hget i hi
            have hy : elems[i]? = some elems[i] := by simp [hel, hi]
            rw [hy, hc] at h1
            cases hci : w.cells? base (a.add (i * l'.length)) l'.length with
            | none => rw [hci] at h1; cases h1
            | some ci =>
              rw [hci] at h1
              exact ⟨ci, _, rfl, hy, ih e g' l' ci _ he h1 fun y hy => hw y (.inr (.inl (weightsAll_mem (List.mem_map.2 ⟨_, List.getElem_mem (by omega), rfl⟩) y hy)))⟩
          let ci : Nat → List Value := fun i => (w.cells? base (a.add (i * l'.length)) l'.length).getD []
          have hci : ∀ i, i < len + 1 → w.cells? base (a.add (i * l'.length)) l'.length = some (ci i) ∧ ∃ qs f, Lv w l' qs (ci i) f := by
            intro i hi
            obtain ⟨c, y, h1, _, h2⟩ := hcell i hi
            have : ci i = c := by simp [ci, h1]
            rw [this]; exact ⟨h1, h2⟩
          have hT : ∃ T, T = ptyOf g' l' := ⟨_, rfl⟩
          obtain ⟨T, hT⟩ := hT
          obtain ⟨es, f, e1, e2, e3, e4⟩ := elems_lv (w := w) hT (fun hg => by subst hg; exact dat_leaf he) ((List.range (len + 1)).map ci) fun cs hcs => by
            obtain ⟨i, hi, rfl⟩ := List.mem_map.1 hcs
            exact (hci i (by simpa using hi)).2
          simp only [List.length_map, List.length_range] at e1
          obtain ⟨b, o, sp⟩ := a
          have h00 := (cells_get (hci 0 (by omega)).1)
          have h01 := h00.2 0 hpos
          have hne : ∃ u, (ci 0)[0]? = some u := ⟨(ci 0)[0]'(by omega), by simp [h00.1, hpos]⟩
          obtain ⟨u, hu⟩ := hne
          rw [hu] at h01
          have ha0 : (Addr.add ⟨b, o, sp⟩ (0 * l'.length)).add 0 = ⟨b, o, sp⟩ := by simp [Addr.add]
          rw [ha0] at h01
          simp only [World.cell?] at h01
          have hblk : ∃ c t' fr, w.heap[b]? = some (.cells c t' fr) ∧ sp = none := by
            split at h01
            · rename_i c t' fr hc'
              refine ⟨c, t', fr, hc', ?_⟩
              cases sp with
              | none => rfl
              | some _ => simp at h01
            · cases h01
          obtain ⟨c, t', fr, hblk, rfl⟩ := hblk
          refine ⟨[.list es], b :: f ++ [], ?_⟩
          subst hT
          have := Lv.list (cap := cap) (o := o) hblk e2 ⟨by omega, by omega⟩ e3 ?_ Lv.nil
          · rw [e1] at this
            exact this
          · have := rows_take (c := c) (o := o) (k := l'.length) ((List.range (len + 1)).map ci) 0 fun i cj hi => by
              simp only [List.getElem?_map, List.getElem?_range, Option.map_eq_some_iff] at hi
              obtain ⟨j, hj, rfl⟩ := hi
              have hij : i < len + 1 ∧ i = j := by
                by_cases hlt : i < len + 1
                · rw [List.getElem?_range hlt] at hj; cases hj; exact ⟨hlt, rfl⟩
                · rw [List.getElem?_eq_none (by simp; omega)] at hj; cases hj
              obtain ⟨hlt, rfl⟩ := hij
              obtain ⟨k1, k2⟩ := cells_get (hci i hlt).1
              refine ⟨k1, fun j hj => ?_⟩
              have := k2 j hj
              rw [addr_add, addr_add] at this
              simp only [World.cell?, hblk] at this
              rw [← this]
              simp [Nat.add_assoc]
            simpa using this
    | @struct _ fs l ht hds hc _ =>
      obtain ⟨xs, m, hm, rfl, hlen, hxl, hget⟩ := DataW.trod_struct ht h
      have hmn : m = n := by omega
      subst hmn
      obtain ⟨_, _, hoff⟩ := K.struct (hdt _ _ _ hd0) ht
      simp only [DataW.weights, ht] at hw
      obtain ⟨qs, f, hq⟩ := dats_lv (cs := cs) ih fs.toList l xs 0 hds (fun j f hj => by simpa using hoff j f hj) (fun j f hj => hget j f (by simpa using hj)) (by simpa using hxl) hw
      refine ⟨qs, f, ?_⟩
      rw [List.drop_zero, List.take_of_length_le (by omega)] at hq
      exact hq

end
end Go.Proofs.YtolgjekokdimoaaGreatDoor
end

section
namespace Go.Proofs.YtolgjekokdimoaaGreatDoor
variable [LaidG]
open Go.ChangeShapes Go.WideShapes Go.ChangeAt Go.RowKit
set_option linter.unusedVariables false

/-- The parameters of a law. -/
inductive ArgTys (P : Program) : List Nat → List (Md × PTy) → Prop
  | nil : ArgTys P [] []
  | cons {t ts g l ats} : Dat P t g l → ArgTys P ts ats → ArgTys P (t :: ts) ((.rd, ptyOf g l) :: ats)

section
variable {H : Type} {enc : TypeId × Value → H} {P : Program} {W W' : World}

theorem okWide_agg {base : Nat} {t : Nat} {l : List PTy} {v : Value} (hd : Dat P t true l) (h : Value.okWide P W .any base t v) : ∃ cs, v = .agg cs := by
  cases hd with
  | struct ht _ _ _ =>
    unfold Value.okWide at h
    rw [ht] at h
    obtain ⟨cs, h, _⟩ := h
    exact ⟨cs, h⟩

theorem okWide_leaf {base : Nat} {t : Nat} {l : List PTy} {v : Value} (hd : Dat P t false l) (h : Value.okWide P W .any base t v) : v.cells.toList = [v] := by
  cases hd with
  | int ht _ => unfold Value.okWide Cell.okWide Cell.ok at h; rw [ht] at h; cases v <;> first | rfl | (simp at h)
  | bool ht _ => unfold Value.okWide Cell.okWide Cell.ok at h; rw [ht] at h; cases v <;> first | rfl | (simp at h)
  | str ht _ => unfold Value.okWide Cell.okWide Cell.ok at h; rw [ht] at h; cases v <;> first | rfl | (simp at h)
  | slice ht _ _ _ _ _ => unfold Value.okWide Cell.okWide Cell.ok at h; rw [ht] at h; cases v <;> first | rfl | (simp at h)

theorem arg_lv (K : Kids P (· < P.types.size)) (hdt : ∀ t g l, Dat P t g l → t < P.types.size) {base : Nat} {t : Nat} {g : Bool} {l : List PTy} {v : Value} {d : DataW H} {p : List MemPlace} (hd : Dat P t g l) (hk : Value.okWide P W .any base t v)
    (h : DataW.Trod enc P W 0 (fun _ => true) true t v d p) (hw : ∀ y ∈ d.weights P t, y ≤ reachBytes) : ∃ q f, ArgV W (ptyOf g l) q v f f := by
  obtain ⟨n, h⟩ := h
  obtain ⟨qs, f, hL⟩ := trod_lv K hdt n t g l _ (d, p) hd h hw
  cases g with
  | true =>
    obtain ⟨cs, rfl⟩ := okWide_agg hd hk
    exact ⟨.agg qs, f, qs, cs.toList, rfl, by simp, hL, rfl⟩
  | false =>
    rw [okWide_leaf hd hk] at hL
    obtain ⟨T, rfl, hn⟩ := dat_leaf hd
    have hl := hL.lens.1
    match qs, hl with
    | [q], _ =>
      refine ⟨q, f, ?_⟩
      show ArgV W T q v f f
      cases T with
      | agg ts => exact absurd rfl (hn ts)
      | box ts => cases hL
      | abx t => cases hL
      | fn g ts => cases hL
      | opq => cases hL
      | int k => exact ⟨hL, rfl⟩
      | bool => exact ⟨hL, rfl⟩
      | str => exact ⟨hL, rfl⟩
      | list t => exact ⟨hL, rfl⟩

theorem args_lv (K : Kids P (· < P.types.size)) (hdt : ∀ t g l, Dat P t g l → t < P.types.size) {base : Nat} : ∀ {ts : List Nat} {ats : List (Md × PTy)} {vs : List Value} {ds : List (DataW H)} {ps : List MemPlace}, ArgTys P ts ats →
    (∀ (j : Nat) t v, ts[j]? = some t → vs[j]? = some v → Value.okWide P W .any base t v) → DataW.TrodAll enc P W 0 (fun _ => true) true ts vs ds ps → (∀ y ∈ DataW.weightsEach P ts ds, y ≤ reachBytes) →
    ∃ qs fs, ArgsV W ats qs vs fs fs []
  | [], ats, vs, ds, ps, ha, hk, h, hw => by
    cases ha
    cases vs <;> cases ds <;> simp [DataW.TrodAll] at h
    exact ⟨[], [], .nil⟩
  | t :: ts, ats, [], ds, ps, ha, hk, h, hw => by cases ds <;> simp [DataW.TrodAll] at h
  | t :: ts, ats, v :: vs, [], ps, ha, hk, h, hw => by simp [DataW.TrodAll] at h
  | t :: ts, ats, v :: vs, d :: ds, ps, ha, hk, h, hw => by
    cases ha with
    | @cons _ _ g l ats' hd ha =>
      obtain ⟨p, q, h1, h2, rfl⟩ := h
      simp only [DataW.weightsEach, List.mem_append] at hw
      obtain ⟨q1, f1, k1⟩ := arg_lv K hdt hd (hk 0 t v (by simp) (by simp)) h1 (fun y hy => hw y (.inl hy))
      obtain ⟨qs, fs, k2⟩ := args_lv K hdt ha (fun j t' v' hj hv => hk (j + 1) t' v' (by simpa using hj) (by simpa using hv)) h2 (fun y hy => hw y (.inr hy))
      exact ⟨q1 :: qs, f1 ++ fs, .rd k1 k2⟩

theorem sameAt_fr (h : Fr W [] W') {p : MemPlace} (hp : p.block < W.heap.size) : W.sameAt W' p := by
  have hb := h.block p.block hp (by simp)
  cases p with
  | cell b o => simp only [World.sameAt, World.cell?]; rw [show W'.heap[b]? = W.heap[b]? from hb]
  | map b => exact hb

theorem trodAll_fr (h : Fr W [] W') {sp : Nat → Bool} : ∀ {ts : List TypeId} {vs : List Value} {ds : List (DataW H)} {ps : List MemPlace}, DataW.TrodAll enc P W 0 sp true ts vs ds ps → (∀ p ∈ ps, p.block < W.heap.size) → DataW.TrodAll enc P W' 0 sp true ts vs ds ps
  | [], [], [], _, h0, _ => h0
  | [], [], _ :: _, _, h0, _ => h0.elim
  | [], _ :: _, _, _, h0, _ => h0.elim
  | _ :: _, [], _, _, h0, _ => h0.elim
  | _ :: _, _ :: _, [], _, h0, _ => h0.elim
  | t :: ts, v :: vs, d :: ds, _, ⟨p, q, ⟨n, h1⟩, h2, e⟩, hl => by
    subst e
    exact ⟨p, q, ⟨n, DataW.trod_carry n t _ _ h1 fun x hx => sameAt_fr h (hl x (List.mem_append_left _ hx))⟩, trodAll_fr h h2 fun x hx => hl x (List.mem_append_right _ hx), rfl⟩

theorem keptBut_fr (h : Fr W [] W') (may : MemPlace → Prop) : W.keptBut W' may := by
  refine ⟨h.os, h.output, fun i hi => ?_⟩
  rw [h.block i hi (by simp)]
  have := (World.keptBut_refl W may).2.2 i hi
  exact this

/-- A law's contract is its row's. -/
theorem law_post {fn : Func} {f : FuncId} {s : ChangeSpec} {c : FSpec} {tb : Nat} {base : Nat} {args : Array Value} {ds gs : List (DataW H)} {before : List MemPlace} (hl : laidOutB P = true) (hmr : mapsRowed P = true)
    (hsl : ((List.range P.types.size).all fun t => match P.underlying t with | some (.slice e) => decide (0 < P.cellsOf e) | _ => true) = true)
    (hdt : ∀ t g l, Dat P t g l → t < P.types.size) (hm : Meets P f c) (hG : GlOk W []) (ha : ArgTys P fn.params.toList c.args) (hpar : ∀ t ∈ fn.params.toList, t < P.types.size) (hb : P.underlying tb = some .bool) (hres : fn.resultTypes = #[tb])
    (hv : s.vars = []) (hfn : ∀ H ds, ds.length = fn.params.size → (s.fn H ds).results = [.lit (.bool true)] ∧ (s.fn H ds).args = ds ∧ (s.fn H ds).vars = [])
    (hc : c.ret = [.bool] ∧ c.fresh = true ∧ (∀ ps, c.pre ps) ∧ ∀ ps, c.res ps = [.bool true]) (hrd : allRd c.args = true)
    (hval : ∀ (j : Nat) t v, fn.params[j]? = some t → args[j]? = some v → Value.okWide P W .any base t v)
    (hW : DataW.Whole enc P fn.params.toList s.vars false W args.toList ds gs before)
    (hwt : (DataW.weightsEach P (fn.params.toList ++ s.plain.varTypes P) (ds ++ gs)).all (· ≤ reachBytes) = true) :
    Calls P f args W fun e W' => ∃ v, e = .returned v ∧ s.post enc P fn false true false false W args v W' := by
  have hW' := hW
  have hlt := hW.lt
  obtain ⟨p, q, hA, hV, rfl, hfz, _⟩ := hW
  rw [hv] at hV
  have hg : gs = [] ∧ q = [] := by
    cases gs with
    | nil => exact ⟨rfl, hV⟩
    | cons _ _ => exact hV.elim
  obtain ⟨rfl, rfl⟩ := hg
  have hdl : ∀ {ts : List TypeId} {vs : List Value} {ds : List (DataW H)} {ps : List MemPlace}, DataW.TrodAll enc P W 0 (fun _ => true) true ts vs ds ps → ds.length = ts.length := by
    intro ts
    induction ts with
    | nil => intro vs ds ps h; cases vs <;> cases ds <;> simp [DataW.TrodAll] at h ⊢
    | cons t ts ih => intro vs ds ps h; cases vs <;> cases ds <;> simp [DataW.TrodAll] at h ⊢; obtain ⟨_, _, _, h2, _⟩ := h; exact ih h2
  have hlen := hdl hA
  have hvt : s.plain.varTypes P = [] := by simp [ChangeSpec.plain, DataSpec.varTypes, hv]
  simp only [List.append_nil, hvt] at hwt hW'
  have K := kids_rows hl hmr
  obtain ⟨qs, fs, hargs⟩ := args_lv K hdt ha (fun j t v hj hv' => hval j t v (by simpa using hj) (by simpa using hv')) hA (fun y hy => by simpa using List.all_eq_true.1 hwt y hy)
  obtain ⟨c1, c2, c3, c4⟩ := hc
  obtain ⟨r1, r2, r3⟩ := hfn H ds (by simpa using hlen)
  have hcall := hm W qs _ fs fs [] hargs (by simp) (by simp) (c3 qs) hG
  simp only [Array.toArray_toList] at hcall
  refine hcall.mono fun e W' he => ?_
  obtain ⟨rvs, rfl, hFr, hcase⟩ := he
  have hret : ∃ fr, RetVs W' c.ret (c.res qs) rvs fr := by
    rcases hcase with ⟨_, fr, mo, h, _⟩ | ⟨h, _⟩
    · exact ⟨fr, h⟩
    · rw [c2] at h; cases h
  obtain ⟨fr, hret⟩ := hret
  rw [c1, c4] at hret
  have hrv : rvs = [.bool true] := by
    cases hret with
    | cons h1 h2 =>
      cases h2
      obtain ⟨fs', h1, _⟩ := h1
      cases h1 with
      | bool h => cases h; rfl
  subst hrv
  have hsame : ∀ sp : Nat → Bool, (∀ x ∈ p, sp x.block = true) → DataW.TrodAll enc P W' 0 sp true fn.params.toList args.toList ds p := fun sp hsp =>
    trodAll_fr hFr (hA.respare (T := (· < P.types.size)) K (fun t e ht => slices_full_of P hsl t e ht) hpar hsp) (fun x hx => hlt x (by simp [hx]))
  refine ⟨_, rfl, ds, [], p, [], p, [], by simpa using hW', ?_, ?_, ?_, keptBut_fr hFr _, fun h => by cases h⟩
  · simp only [List.append_nil, r1, hres]
    exact trodAll_cons_mk (shut_bool hb _) trodAll_mk0
  · simp only [List.append_nil, r2]
    exact hsame _ fun x hx => by simpa using hlt x (by simp [hx])
  · simp only [List.append_nil, r3, hv]; rfl

end
end Go.Proofs.YtolgjekokdimoaaGreatDoor
end

section
namespace Go.Proofs.YtolgjekokdimoaaGreatDoor
variable [LaidG]
set_option maxRecDepth 100000

theorem lt2 : 2 < Tryz.prog.types.size := of_decide_eq_true (by kernel_rfl)
theorem D2 : Dat Tryz.prog 2 false [.int .i64] := .int Tryz.underlying2 lt2
theorem lt3 : 3 < Tryz.prog.types.size := of_decide_eq_true (by kernel_rfl)
theorem D3 : Dat Tryz.prog 3 false [.int .i64] := .int Tryz.underlying3 lt3
theorem lt4 : 4 < Tryz.prog.types.size := of_decide_eq_true (by kernel_rfl)
theorem D4 : Dat Tryz.prog 4 false [.bool] := .bool Tryz.underlying4 lt4
theorem lt5 : 5 < Tryz.prog.types.size := of_decide_eq_true (by kernel_rfl)
theorem D5 : Dat Tryz.prog 5 false [.int .u8] := .int Tryz.underlying5 lt5
theorem lt6 : 6 < Tryz.prog.types.size := of_decide_eq_true (by kernel_rfl)
theorem D6 : Dat Tryz.prog 6 false [.int .u8] := .int Tryz.underlying6 lt6
theorem lt7 : 7 < Tryz.prog.types.size := of_decide_eq_true (by kernel_rfl)
theorem D7 : Dat Tryz.prog 7 true [.int .i64, .int .i64, .bool, .int .u8] := .struct Tryz.underlying7 (.cons (l := [.int .i64]) (m := [.int .i64, .bool, .int .u8]) D2 (by kernel_rfl) (.cons (l := [.int .i64]) (m := [.bool, .int .u8]) D3 (by kernel_rfl) (.cons (l := [.bool]) (m := [.int .u8]) D4 (by kernel_rfl) (.cons (l := [.int .u8]) (m := []) D6 (by kernel_rfl) .nil)))) (by kernel_rfl) lt7
theorem lt8 : 8 < Tryz.prog.types.size := of_decide_eq_true (by kernel_rfl)
theorem D8 : Dat Tryz.prog 8 true [.int .i64, .int .i64, .bool, .int .u8] := .struct Tryz.underlying8 (.cons (l := [.int .i64]) (m := [.int .i64, .bool, .int .u8]) D2 (by kernel_rfl) (.cons (l := [.int .i64]) (m := [.bool, .int .u8]) D3 (by kernel_rfl) (.cons (l := [.bool]) (m := [.int .u8]) D4 (by kernel_rfl) (.cons (l := [.int .u8]) (m := []) D6 (by kernel_rfl) .nil)))) (by kernel_rfl) lt8
theorem lt9 : 9 < Tryz.prog.types.size := of_decide_eq_true (by kernel_rfl)
theorem D9 : Dat Tryz.prog 9 false [.str] := .str Tryz.underlying9 lt9
theorem lt10 : 10 < Tryz.prog.types.size := of_decide_eq_true (by kernel_rfl)
theorem D10 : Dat Tryz.prog 10 false [.str] := .str Tryz.underlying10 lt10
theorem lt11 : 11 < Tryz.prog.types.size := of_decide_eq_true (by kernel_rfl)
theorem D11 : Dat Tryz.prog 11 false [.str] := .str Tryz.underlying11 lt11
theorem lt12 : 12 < Tryz.prog.types.size := of_decide_eq_true (by kernel_rfl)
theorem D12 : Dat Tryz.prog 12 false [.int .u64] := .int Tryz.underlying12 lt12
theorem lt13 : 13 < Tryz.prog.types.size := of_decide_eq_true (by kernel_rfl)
theorem D13 : Dat Tryz.prog 13 true [.str, .int .u64] := .struct Tryz.underlying13 (.cons (l := [.str]) (m := [.int .u64]) D9 (by kernel_rfl) (.cons (l := [.int .u64]) (m := []) D12 (by kernel_rfl) .nil)) (by kernel_rfl) lt13
theorem lt14 : 14 < Tryz.prog.types.size := of_decide_eq_true (by kernel_rfl)
theorem D14 : Dat Tryz.prog 14 true [.str, .int .u64] := .struct Tryz.underlying14 (.cons (l := [.str]) (m := [.int .u64]) D9 (by kernel_rfl) (.cons (l := [.int .u64]) (m := []) D12 (by kernel_rfl) .nil)) (by kernel_rfl) lt14
theorem lt21 : 21 < Tryz.prog.types.size := of_decide_eq_true (by kernel_rfl)
theorem D21 : Dat Tryz.prog 21 false [.int .i32] := .int Tryz.underlying21 lt21
theorem lt22 : 22 < Tryz.prog.types.size := of_decide_eq_true (by kernel_rfl)
theorem D22 : Dat Tryz.prog 22 false [.list (.str)] := .slice (e := 9) (g := false) (l := [.str]) Tryz.underlying22 D9 (by kernel_rfl) (by decide) (of_decide_eq_true (by kernel_rfl)) lt22
theorem lt23 : 23 < Tryz.prog.types.size := of_decide_eq_true (by kernel_rfl)
theorem D23 : Dat Tryz.prog 23 true [.int .i64, .int .i64, .int .i64, .list (.str)] := .struct Tryz.underlying23 (.cons (l := [.int .i64]) (m := [.int .i64, .int .i64, .list (.str)]) D3 (by kernel_rfl) (.cons (l := [.int .i64]) (m := [.int .i64, .list (.str)]) D3 (by kernel_rfl) (.cons (l := [.int .i64]) (m := [.list (.str)]) D3 (by kernel_rfl) (.cons (l := [.list (.str)]) (m := []) D22 (by kernel_rfl) .nil)))) (by kernel_rfl) lt23
theorem lt24 : 24 < Tryz.prog.types.size := of_decide_eq_true (by kernel_rfl)
theorem D24 : Dat Tryz.prog 24 true [.int .i64, .int .i64, .int .i64, .list (.str)] := .struct Tryz.underlying24 (.cons (l := [.int .i64]) (m := [.int .i64, .int .i64, .list (.str)]) D3 (by kernel_rfl) (.cons (l := [.int .i64]) (m := [.int .i64, .list (.str)]) D3 (by kernel_rfl) (.cons (l := [.int .i64]) (m := [.list (.str)]) D3 (by kernel_rfl) (.cons (l := [.list (.str)]) (m := []) D22 (by kernel_rfl) .nil)))) (by kernel_rfl) lt24
theorem lt25 : 25 < Tryz.prog.types.size := of_decide_eq_true (by kernel_rfl)
theorem D25 : Dat Tryz.prog 25 true [.int .i64, .str, .str, .int .i64, .int .i64, .int .i64, .list (.str)] := .struct Tryz.underlying25 (.cons (l := [.int .i64]) (m := [.str, .str, .int .i64, .int .i64, .int .i64, .list (.str)]) D3 (by kernel_rfl) (.cons (l := [.str]) (m := [.str, .int .i64, .int .i64, .int .i64, .list (.str)]) D9 (by kernel_rfl) (.cons (l := [.str]) (m := [.int .i64, .int .i64, .int .i64, .list (.str)]) D9 (by kernel_rfl) (.cons (l := [.int .i64, .int .i64, .int .i64, .list (.str)]) (m := []) D24 (by kernel_rfl) .nil)))) (by kernel_rfl) lt25
theorem lt26 : 26 < Tryz.prog.types.size := of_decide_eq_true (by kernel_rfl)
theorem D26 : Dat Tryz.prog 26 true [.int .i64, .str, .str, .int .i64, .int .i64, .int .i64, .list (.str)] := .struct Tryz.underlying26 (.cons (l := [.int .i64]) (m := [.str, .str, .int .i64, .int .i64, .int .i64, .list (.str)]) D3 (by kernel_rfl) (.cons (l := [.str]) (m := [.str, .int .i64, .int .i64, .int .i64, .list (.str)]) D9 (by kernel_rfl) (.cons (l := [.str]) (m := [.int .i64, .int .i64, .int .i64, .list (.str)]) D9 (by kernel_rfl) (.cons (l := [.int .i64, .int .i64, .int .i64, .list (.str)]) (m := []) D24 (by kernel_rfl) .nil)))) (by kernel_rfl) lt26
theorem lt98 : 98 < Tryz.prog.types.size := of_decide_eq_true (by kernel_rfl)
theorem D98 : Dat Tryz.prog 98 true [.int .i64, .str] := .struct Tryz.underlying98 (.cons (l := [.int .i64]) (m := [.str]) D3 (by kernel_rfl) (.cons (l := [.str]) (m := []) D9 (by kernel_rfl) .nil)) (by kernel_rfl) lt98
theorem lt27 : 27 < Tryz.prog.types.size := of_decide_eq_true (by kernel_rfl)
theorem D27 : Dat Tryz.prog 27 false [.list (.agg [.int .i64, .str])] := .slice (e := 98) (g := true) (l := [.int .i64, .str]) Tryz.underlying27 D98 (by kernel_rfl) (by decide) (of_decide_eq_true (by kernel_rfl)) lt27
theorem lt28 : 28 < Tryz.prog.types.size := of_decide_eq_true (by kernel_rfl)
theorem D28 : Dat Tryz.prog 28 true [.int .i64, .int .i64, .bool, .int .i64, .int .i64, .list (.agg [.int .i64, .str])] := .struct Tryz.underlying28 (.cons (l := [.int .i64]) (m := [.int .i64, .bool, .int .i64, .int .i64, .list (.agg [.int .i64, .str])]) D3 (by kernel_rfl) (.cons (l := [.int .i64]) (m := [.bool, .int .i64, .int .i64, .list (.agg [.int .i64, .str])]) D3 (by kernel_rfl) (.cons (l := [.bool]) (m := [.int .i64, .int .i64, .list (.agg [.int .i64, .str])]) D4 (by kernel_rfl) (.cons (l := [.int .i64]) (m := [.int .i64, .list (.agg [.int .i64, .str])]) D3 (by kernel_rfl) (.cons (l := [.int .i64]) (m := [.list (.agg [.int .i64, .str])]) D3 (by kernel_rfl) (.cons (l := [.list (.agg [.int .i64, .str])]) (m := []) D27 (by kernel_rfl) .nil)))))) (by kernel_rfl) lt28
theorem lt29 : 29 < Tryz.prog.types.size := of_decide_eq_true (by kernel_rfl)
theorem D29 : Dat Tryz.prog 29 true [.int .i64, .int .i64, .bool, .int .i64, .int .i64, .list (.agg [.int .i64, .str])] := .struct Tryz.underlying29 (.cons (l := [.int .i64]) (m := [.int .i64, .bool, .int .i64, .int .i64, .list (.agg [.int .i64, .str])]) D3 (by kernel_rfl) (.cons (l := [.int .i64]) (m := [.bool, .int .i64, .int .i64, .list (.agg [.int .i64, .str])]) D3 (by kernel_rfl) (.cons (l := [.bool]) (m := [.int .i64, .int .i64, .list (.agg [.int .i64, .str])]) D4 (by kernel_rfl) (.cons (l := [.int .i64]) (m := [.int .i64, .list (.agg [.int .i64, .str])]) D3 (by kernel_rfl) (.cons (l := [.int .i64]) (m := [.list (.agg [.int .i64, .str])]) D3 (by kernel_rfl) (.cons (l := [.list (.agg [.int .i64, .str])]) (m := []) D27 (by kernel_rfl) .nil)))))) (by kernel_rfl) lt29
theorem lt32 : 32 < Tryz.prog.types.size := of_decide_eq_true (by kernel_rfl)
theorem D32 : Dat Tryz.prog 32 true [.int .i64, .int .i64, .int .i64, .list (.str)] := .struct Tryz.underlying32 (.cons (l := [.int .i64]) (m := [.int .i64, .int .i64, .list (.str)]) D3 (by kernel_rfl) (.cons (l := [.int .i64]) (m := [.int .i64, .list (.str)]) D3 (by kernel_rfl) (.cons (l := [.int .i64]) (m := [.list (.str)]) D3 (by kernel_rfl) (.cons (l := [.list (.str)]) (m := []) D22 (by kernel_rfl) .nil)))) (by kernel_rfl) lt32
theorem lt33 : 33 < Tryz.prog.types.size := of_decide_eq_true (by kernel_rfl)
theorem D33 : Dat Tryz.prog 33 true [.int .i64, .str, .str, .int .i64, .int .i64, .int .i64, .list (.str)] := .struct Tryz.underlying33 (.cons (l := [.int .i64]) (m := [.str, .str, .int .i64, .int .i64, .int .i64, .list (.str)]) D3 (by kernel_rfl) (.cons (l := [.str]) (m := [.str, .int .i64, .int .i64, .int .i64, .list (.str)]) D9 (by kernel_rfl) (.cons (l := [.str]) (m := [.int .i64, .int .i64, .int .i64, .list (.str)]) D9 (by kernel_rfl) (.cons (l := [.int .i64, .int .i64, .int .i64, .list (.str)]) (m := []) D32 (by kernel_rfl) .nil)))) (by kernel_rfl) lt33
theorem lt34 : 34 < Tryz.prog.types.size := of_decide_eq_true (by kernel_rfl)
theorem D34 : Dat Tryz.prog 34 true [.int .i64, .str, .str, .int .i64, .int .i64, .int .i64, .list (.str)] := .struct Tryz.underlying34 (.cons (l := [.int .i64]) (m := [.str, .str, .int .i64, .int .i64, .int .i64, .list (.str)]) D3 (by kernel_rfl) (.cons (l := [.str]) (m := [.str, .int .i64, .int .i64, .int .i64, .list (.str)]) D9 (by kernel_rfl) (.cons (l := [.str]) (m := [.int .i64, .int .i64, .int .i64, .list (.str)]) D9 (by kernel_rfl) (.cons (l := [.int .i64, .int .i64, .int .i64, .list (.str)]) (m := []) D32 (by kernel_rfl) .nil)))) (by kernel_rfl) lt34
theorem lt94 : 94 < Tryz.prog.types.size := of_decide_eq_true (by kernel_rfl)
theorem D94 : Dat Tryz.prog 94 true [.int .i64, .str] := .struct Tryz.underlying94 (.cons (l := [.int .i64]) (m := [.str]) D3 (by kernel_rfl) (.cons (l := [.str]) (m := []) D9 (by kernel_rfl) .nil)) (by kernel_rfl) lt94
theorem lt38 : 38 < Tryz.prog.types.size := of_decide_eq_true (by kernel_rfl)
theorem D38 : Dat Tryz.prog 38 false [.list (.agg [.int .i64, .str])] := .slice (e := 94) (g := true) (l := [.int .i64, .str]) Tryz.underlying38 D94 (by kernel_rfl) (by decide) (of_decide_eq_true (by kernel_rfl)) lt38
theorem lt39 : 39 < Tryz.prog.types.size := of_decide_eq_true (by kernel_rfl)
theorem D39 : Dat Tryz.prog 39 true [.int .i64, .int .i64, .bool, .int .i64, .int .i64, .list (.agg [.int .i64, .str])] := .struct Tryz.underlying39 (.cons (l := [.int .i64]) (m := [.int .i64, .bool, .int .i64, .int .i64, .list (.agg [.int .i64, .str])]) D3 (by kernel_rfl) (.cons (l := [.int .i64]) (m := [.bool, .int .i64, .int .i64, .list (.agg [.int .i64, .str])]) D3 (by kernel_rfl) (.cons (l := [.bool]) (m := [.int .i64, .int .i64, .list (.agg [.int .i64, .str])]) D4 (by kernel_rfl) (.cons (l := [.int .i64]) (m := [.int .i64, .list (.agg [.int .i64, .str])]) D3 (by kernel_rfl) (.cons (l := [.int .i64]) (m := [.list (.agg [.int .i64, .str])]) D3 (by kernel_rfl) (.cons (l := [.list (.agg [.int .i64, .str])]) (m := []) D38 (by kernel_rfl) .nil)))))) (by kernel_rfl) lt39
theorem lt40 : 40 < Tryz.prog.types.size := of_decide_eq_true (by kernel_rfl)
theorem D40 : Dat Tryz.prog 40 true [.int .i64, .int .i64, .bool, .int .i64, .int .i64, .list (.agg [.int .i64, .str])] := .struct Tryz.underlying40 (.cons (l := [.int .i64]) (m := [.int .i64, .bool, .int .i64, .int .i64, .list (.agg [.int .i64, .str])]) D3 (by kernel_rfl) (.cons (l := [.int .i64]) (m := [.bool, .int .i64, .int .i64, .list (.agg [.int .i64, .str])]) D3 (by kernel_rfl) (.cons (l := [.bool]) (m := [.int .i64, .int .i64, .list (.agg [.int .i64, .str])]) D4 (by kernel_rfl) (.cons (l := [.int .i64]) (m := [.int .i64, .list (.agg [.int .i64, .str])]) D3 (by kernel_rfl) (.cons (l := [.int .i64]) (m := [.list (.agg [.int .i64, .str])]) D3 (by kernel_rfl) (.cons (l := [.list (.agg [.int .i64, .str])]) (m := []) D38 (by kernel_rfl) .nil)))))) (by kernel_rfl) lt40
theorem lt50 : 50 < Tryz.prog.types.size := of_decide_eq_true (by kernel_rfl)
theorem D50 : Dat Tryz.prog 50 false [.list (.int .u8)] := .slice (e := 5) (g := false) (l := [.int .u8]) Tryz.underlying50 D5 (by kernel_rfl) (by decide) (of_decide_eq_true (by kernel_rfl)) lt50
theorem lt93 : 93 < Tryz.prog.types.size := of_decide_eq_true (by kernel_rfl)
theorem D93 : Dat Tryz.prog 93 true [.int .i64, .str] := .struct Tryz.underlying93 (.cons (l := [.int .i64]) (m := [.str]) D3 (by kernel_rfl) (.cons (l := [.str]) (m := []) D9 (by kernel_rfl) .nil)) (by kernel_rfl) lt93
theorem lt103 : 103 < Tryz.prog.types.size := of_decide_eq_true (by kernel_rfl)
theorem D103 : Dat Tryz.prog 103 false [.list (.int .i64)] := .slice (e := 3) (g := false) (l := [.int .i64]) Tryz.underlying103 D3 (by kernel_rfl) (by decide) (of_decide_eq_true (by kernel_rfl)) lt103
theorem lt112 : 112 < Tryz.prog.types.size := of_decide_eq_true (by kernel_rfl)
theorem D112 : Dat Tryz.prog 112 true [.list (.int .u8), .int .i64, .int .i64] := .struct Tryz.underlying112 (.cons (l := [.list (.int .u8)]) (m := [.int .i64, .int .i64]) D50 (by kernel_rfl) (.cons (l := [.int .i64]) (m := [.int .i64]) D3 (by kernel_rfl) (.cons (l := [.int .i64]) (m := []) D3 (by kernel_rfl) .nil))) (by kernel_rfl) lt112
theorem lt113 : 113 < Tryz.prog.types.size := of_decide_eq_true (by kernel_rfl)
theorem D113 : Dat Tryz.prog 113 true [.list (.int .u8), .int .i64, .int .i64] := .struct Tryz.underlying113 (.cons (l := [.list (.int .u8)]) (m := [.int .i64, .int .i64]) D50 (by kernel_rfl) (.cons (l := [.int .i64]) (m := [.int .i64]) D3 (by kernel_rfl) (.cons (l := [.int .i64]) (m := []) D3 (by kernel_rfl) .nil))) (by kernel_rfl) lt113
theorem lt137 : 137 < Tryz.prog.types.size := of_decide_eq_true (by kernel_rfl)
theorem D137 : Dat Tryz.prog 137 true [.int .i64, .int .i64] := .struct Tryz.underlying137 (.cons (l := [.int .i64]) (m := [.int .i64]) D3 (by kernel_rfl) (.cons (l := [.int .i64]) (m := []) D3 (by kernel_rfl) .nil)) (by kernel_rfl) lt137
theorem lt116 : 116 < Tryz.prog.types.size := of_decide_eq_true (by kernel_rfl)
theorem D116 : Dat Tryz.prog 116 false [.list (.agg [.int .i64, .int .i64])] := .slice (e := 137) (g := true) (l := [.int .i64, .int .i64]) Tryz.underlying116 D137 (by kernel_rfl) (by decide) (of_decide_eq_true (by kernel_rfl)) lt116
theorem lt117 : 117 < Tryz.prog.types.size := of_decide_eq_true (by kernel_rfl)
theorem D117 : Dat Tryz.prog 117 true [.int .i64, .int .i64, .int .i64, .int .i64, .int .i64, .int .i64, .int .i64, .int .i64, .int .i64, .str, .list (.agg [.int .i64, .int .i64]), .list (.str)] := .struct Tryz.underlying117 (.cons (l := [.int .i64]) (m := [.int .i64, .int .i64, .int .i64, .int .i64, .int .i64, .int .i64, .int .i64, .int .i64, .str, .list (.agg [.int .i64, .int .i64]), .list (.str)]) D3 (by kernel_rfl) (.cons (l := [.int .i64]) (m := [.int .i64, .int .i64, .int .i64, .int .i64, .int .i64, .int .i64, .int .i64, .str, .list (.agg [.int .i64, .int .i64]), .list (.str)]) D3 (by kernel_rfl) (.cons (l := [.int .i64]) (m := [.int .i64, .int .i64, .int .i64, .int .i64, .int .i64, .int .i64, .str, .list (.agg [.int .i64, .int .i64]), .list (.str)]) D3 (by kernel_rfl) (.cons (l := [.int .i64]) (m := [.int .i64, .int .i64, .int .i64, .int .i64, .int .i64, .str, .list (.agg [.int .i64, .int .i64]), .list (.str)]) D3 (by kernel_rfl) (.cons (l := [.int .i64]) (m := [.int .i64, .int .i64, .int .i64, .int .i64, .str, .list (.agg [.int .i64, .int .i64]), .list (.str)]) D3 (by kernel_rfl) (.cons (l := [.int .i64]) (m := [.int .i64, .int .i64, .int .i64, .str, .list (.agg [.int .i64, .int .i64]), .list (.str)]) D3 (by kernel_rfl) (.cons (l := [.int .i64]) (m := [.int .i64, .int .i64, .str, .list (.agg [.int .i64, .int .i64]), .list (.str)]) D3 (by kernel_rfl) (.cons (l := [.int .i64]) (m := [.int .i64, .str, .list (.agg [.int .i64, .int .i64]), .list (.str)]) D3 (by kernel_rfl) (.cons (l := [.int .i64]) (m := [.str, .list (.agg [.int .i64, .int .i64]), .list (.str)]) D3 (by kernel_rfl) (.cons (l := [.str]) (m := [.list (.agg [.int .i64, .int .i64]), .list (.str)]) D9 (by kernel_rfl) (.cons (l := [.list (.agg [.int .i64, .int .i64])]) (m := [.list (.str)]) D116 (by kernel_rfl) (.cons (l := [.list (.str)]) (m := []) D22 (by kernel_rfl) .nil)))))))))))) (by kernel_rfl) lt117
theorem lt118 : 118 < Tryz.prog.types.size := of_decide_eq_true (by kernel_rfl)
theorem D118 : Dat Tryz.prog 118 true [.int .i64, .int .i64, .int .i64, .int .i64, .int .i64, .int .i64, .int .i64, .int .i64, .int .i64, .str, .list (.agg [.int .i64, .int .i64]), .list (.str)] := .struct Tryz.underlying118 (.cons (l := [.int .i64]) (m := [.int .i64, .int .i64, .int .i64, .int .i64, .int .i64, .int .i64, .int .i64, .int .i64, .str, .list (.agg [.int .i64, .int .i64]), .list (.str)]) D3 (by kernel_rfl) (.cons (l := [.int .i64]) (m := [.int .i64, .int .i64, .int .i64, .int .i64, .int .i64, .int .i64, .int .i64, .str, .list (.agg [.int .i64, .int .i64]), .list (.str)]) D3 (by kernel_rfl) (.cons (l := [.int .i64]) (m := [.int .i64, .int .i64, .int .i64, .int .i64, .int .i64, .int .i64, .str, .list (.agg [.int .i64, .int .i64]), .list (.str)]) D3 (by kernel_rfl) (.cons (l := [.int .i64]) (m := [.int .i64, .int .i64, .int .i64, .int .i64, .int .i64, .str, .list (.agg [.int .i64, .int .i64]), .list (.str)]) D3 (by kernel_rfl) (.cons (l := [.int .i64]) (m := [.int .i64, .int .i64, .int .i64, .int .i64, .str, .list (.agg [.int .i64, .int .i64]), .list (.str)]) D3 (by kernel_rfl) (.cons (l := [.int .i64]) (m := [.int .i64, .int .i64, .int .i64, .str, .list (.agg [.int .i64, .int .i64]), .list (.str)]) D3 (by kernel_rfl) (.cons (l := [.int .i64]) (m := [.int .i64, .int .i64, .str, .list (.agg [.int .i64, .int .i64]), .list (.str)]) D3 (by kernel_rfl) (.cons (l := [.int .i64]) (m := [.int .i64, .str, .list (.agg [.int .i64, .int .i64]), .list (.str)]) D3 (by kernel_rfl) (.cons (l := [.int .i64]) (m := [.str, .list (.agg [.int .i64, .int .i64]), .list (.str)]) D3 (by kernel_rfl) (.cons (l := [.str]) (m := [.list (.agg [.int .i64, .int .i64]), .list (.str)]) D9 (by kernel_rfl) (.cons (l := [.list (.agg [.int .i64, .int .i64])]) (m := [.list (.str)]) D116 (by kernel_rfl) (.cons (l := [.list (.str)]) (m := []) D22 (by kernel_rfl) .nil)))))))))))) (by kernel_rfl) lt118
theorem lt120 : 120 < Tryz.prog.types.size := of_decide_eq_true (by kernel_rfl)
theorem D120 : Dat Tryz.prog 120 true [.int .i64, .list (.int .i64), .bool, .str, .str] := .struct Tryz.underlying120 (.cons (l := [.int .i64]) (m := [.list (.int .i64), .bool, .str, .str]) D3 (by kernel_rfl) (.cons (l := [.list (.int .i64)]) (m := [.bool, .str, .str]) D103 (by kernel_rfl) (.cons (l := [.bool]) (m := [.str, .str]) D4 (by kernel_rfl) (.cons (l := [.str]) (m := [.str]) D9 (by kernel_rfl) (.cons (l := [.str]) (m := []) D9 (by kernel_rfl) .nil))))) (by kernel_rfl) lt120
theorem lt121 : 121 < Tryz.prog.types.size := of_decide_eq_true (by kernel_rfl)
theorem D121 : Dat Tryz.prog 121 true [.int .i64, .list (.int .i64), .bool, .str, .str] := .struct Tryz.underlying121 (.cons (l := [.int .i64]) (m := [.list (.int .i64), .bool, .str, .str]) D3 (by kernel_rfl) (.cons (l := [.list (.int .i64)]) (m := [.bool, .str, .str]) D103 (by kernel_rfl) (.cons (l := [.bool]) (m := [.str, .str]) D4 (by kernel_rfl) (.cons (l := [.str]) (m := [.str]) D9 (by kernel_rfl) (.cons (l := [.str]) (m := []) D9 (by kernel_rfl) .nil))))) (by kernel_rfl) lt121
theorem lt136 : 136 < Tryz.prog.types.size := of_decide_eq_true (by kernel_rfl)
theorem D136 : Dat Tryz.prog 136 true [.int .i64, .int .i64] := .struct Tryz.underlying136 (.cons (l := [.int .i64]) (m := [.int .i64]) D3 (by kernel_rfl) (.cons (l := [.int .i64]) (m := []) D3 (by kernel_rfl) .nil)) (by kernel_rfl) lt136
theorem lt142 : 142 < Tryz.prog.types.size := of_decide_eq_true (by kernel_rfl)
theorem D142 : Dat Tryz.prog 142 false [.int .u64] := .int Tryz.underlying142 lt142
theorem lt153 : 153 < Tryz.prog.types.size := of_decide_eq_true (by kernel_rfl)
theorem D153 : Dat Tryz.prog 153 true [.int .i64, .int .i64, .bool, .list (.int .i64), .str] := .struct Tryz.underlying153 (.cons (l := [.int .i64]) (m := [.int .i64, .bool, .list (.int .i64), .str]) D3 (by kernel_rfl) (.cons (l := [.int .i64]) (m := [.bool, .list (.int .i64), .str]) D3 (by kernel_rfl) (.cons (l := [.bool]) (m := [.list (.int .i64), .str]) D4 (by kernel_rfl) (.cons (l := [.list (.int .i64)]) (m := [.str]) D103 (by kernel_rfl) (.cons (l := [.str]) (m := []) D9 (by kernel_rfl) .nil))))) (by kernel_rfl) lt153
theorem lt144 : 144 < Tryz.prog.types.size := of_decide_eq_true (by kernel_rfl)
theorem D144 : Dat Tryz.prog 144 false [.list (.agg [.int .i64, .int .i64, .bool, .list (.int .i64), .str])] := .slice (e := 153) (g := true) (l := [.int .i64, .int .i64, .bool, .list (.int .i64), .str]) Tryz.underlying144 D153 (by kernel_rfl) (by decide) (of_decide_eq_true (by kernel_rfl)) lt144
theorem lt149 : 149 < Tryz.prog.types.size := of_decide_eq_true (by kernel_rfl)
theorem D149 : Dat Tryz.prog 149 true [.int .i64, .int .i64, .int .i64, .int .i64, .int .i64, .int .i64, .int .i64, .int .i64, .int .i64, .str, .list (.agg [.int .i64, .int .i64]), .list (.str)] := .struct Tryz.underlying149 (.cons (l := [.int .i64, .int .i64, .int .i64, .int .i64, .int .i64, .int .i64, .int .i64, .int .i64, .int .i64, .str, .list (.agg [.int .i64, .int .i64]), .list (.str)]) (m := []) D118 (by kernel_rfl) .nil) (by kernel_rfl) lt149
theorem lt150 : 150 < Tryz.prog.types.size := of_decide_eq_true (by kernel_rfl)
theorem D150 : Dat Tryz.prog 150 true [.int .i64, .int .i64, .int .i64, .int .i64, .int .i64, .int .i64, .int .i64, .int .i64, .int .i64, .str, .list (.agg [.int .i64, .int .i64]), .list (.str)] := .struct Tryz.underlying150 (.cons (l := [.int .i64, .int .i64, .int .i64, .int .i64, .int .i64, .int .i64, .int .i64, .int .i64, .int .i64, .str, .list (.agg [.int .i64, .int .i64]), .list (.str)]) (m := []) D118 (by kernel_rfl) .nil) (by kernel_rfl) lt150
theorem lt152 : 152 < Tryz.prog.types.size := of_decide_eq_true (by kernel_rfl)
theorem D152 : Dat Tryz.prog 152 true [.int .i64, .int .i64, .bool, .list (.int .i64), .str] := .struct Tryz.underlying152 (.cons (l := [.int .i64]) (m := [.int .i64, .bool, .list (.int .i64), .str]) D3 (by kernel_rfl) (.cons (l := [.int .i64]) (m := [.bool, .list (.int .i64), .str]) D3 (by kernel_rfl) (.cons (l := [.bool]) (m := [.list (.int .i64), .str]) D4 (by kernel_rfl) (.cons (l := [.list (.int .i64)]) (m := [.str]) D103 (by kernel_rfl) (.cons (l := [.str]) (m := []) D9 (by kernel_rfl) .nil))))) (by kernel_rfl) lt152
theorem lt171 : 171 < Tryz.prog.types.size := of_decide_eq_true (by kernel_rfl)
theorem D171 : Dat Tryz.prog 171 false [.int .u32] := .int Tryz.underlying171 lt171
theorem lt180 : 180 < Tryz.prog.types.size := of_decide_eq_true (by kernel_rfl)
theorem D180 : Dat Tryz.prog 180 true [.int .i64, .list (.int .i64), .bool, .str, .str, .list (.agg [.int .i64, .int .i64, .bool, .list (.int .i64), .str])] := .struct Tryz.underlying180 (.cons (l := [.int .i64, .list (.int .i64), .bool, .str, .str]) (m := [.list (.agg [.int .i64, .int .i64, .bool, .list (.int .i64), .str])]) D121 (by kernel_rfl) (.cons (l := [.list (.agg [.int .i64, .int .i64, .bool, .list (.int .i64), .str])]) (m := []) D144 (by kernel_rfl) .nil)) (by kernel_rfl) lt180
theorem lt181 : 181 < Tryz.prog.types.size := of_decide_eq_true (by kernel_rfl)
theorem D181 : Dat Tryz.prog 181 true [.int .i64, .list (.int .i64), .bool, .str, .str, .list (.agg [.int .i64, .int .i64, .bool, .list (.int .i64), .str])] := .struct Tryz.underlying181 (.cons (l := [.int .i64, .list (.int .i64), .bool, .str, .str]) (m := [.list (.agg [.int .i64, .int .i64, .bool, .list (.int .i64), .str])]) D121 (by kernel_rfl) (.cons (l := [.list (.agg [.int .i64, .int .i64, .bool, .list (.int .i64), .str])]) (m := []) D144 (by kernel_rfl) .nil)) (by kernel_rfl) lt181
theorem lt188 : 188 < Tryz.prog.types.size := of_decide_eq_true (by kernel_rfl)
theorem D188 : Dat Tryz.prog 188 false [.list (.int .u32)] := .slice (e := 171) (g := false) (l := [.int .u32]) Tryz.underlying188 D171 (by kernel_rfl) (by decide) (of_decide_eq_true (by kernel_rfl)) lt188
theorem lt192 : 192 < Tryz.prog.types.size := of_decide_eq_true (by kernel_rfl)
theorem D192 : Dat Tryz.prog 192 false [.int .i64] := .int Tryz.underlying192 lt192
theorem lt203 : 203 < Tryz.prog.types.size := of_decide_eq_true (by kernel_rfl)
theorem D203 : Dat Tryz.prog 203 false [.int .u64] := .int Tryz.underlying203 lt203
theorem lt229 : 229 < Tryz.prog.types.size := of_decide_eq_true (by kernel_rfl)
theorem D229 : Dat Tryz.prog 229 true [.int .u8, .int .u8] := .struct Tryz.underlying229 (.cons (l := [.int .u8]) (m := [.int .u8]) D5 (by kernel_rfl) (.cons (l := [.int .u8]) (m := []) D5 (by kernel_rfl) .nil)) (by kernel_rfl) lt229
theorem lt230 : 230 < Tryz.prog.types.size := of_decide_eq_true (by kernel_rfl)
theorem D230 : Dat Tryz.prog 230 true [.int .u8, .int .u8] := .struct Tryz.underlying230 (.cons (l := [.int .u8]) (m := [.int .u8]) D5 (by kernel_rfl) (.cons (l := [.int .u8]) (m := []) D5 (by kernel_rfl) .nil)) (by kernel_rfl) lt230
theorem lt235 : 235 < Tryz.prog.types.size := of_decide_eq_true (by kernel_rfl)
theorem D235 : Dat Tryz.prog 235 true [.str] := .struct Tryz.underlying235 (.cons (l := [.str]) (m := []) D9 (by kernel_rfl) .nil) (by kernel_rfl) lt235
theorem lt236 : 236 < Tryz.prog.types.size := of_decide_eq_true (by kernel_rfl)
theorem D236 : Dat Tryz.prog 236 true [.str] := .struct Tryz.underlying236 (.cons (l := [.str]) (m := []) D9 (by kernel_rfl) .nil) (by kernel_rfl) lt236
theorem lt245 : 245 < Tryz.prog.types.size := of_decide_eq_true (by kernel_rfl)
theorem D245 : Dat Tryz.prog 245 false [.int .u8] := .int Tryz.underlying245 lt245
theorem lt246 : 246 < Tryz.prog.types.size := of_decide_eq_true (by kernel_rfl)
theorem D246 : Dat Tryz.prog 246 false [.int .u8] := .int Tryz.underlying246 lt246
theorem lt248 : 248 < Tryz.prog.types.size := of_decide_eq_true (by kernel_rfl)
theorem D248 : Dat Tryz.prog 248 false [.int .i32] := .int Tryz.underlying248 lt248
theorem lt249 : 249 < Tryz.prog.types.size := of_decide_eq_true (by kernel_rfl)
theorem D249 : Dat Tryz.prog 249 false [.int .i32] := .int Tryz.underlying249 lt249

theorem dat_lt : ∀ t g l, Dat Tryz.prog t g l → t < Tryz.prog.types.size := fun _ _ _ h => h.lt
theorem laid_all : laidOutB Tryz.prog = true := by kernel_rfl
theorem rowed_all : mapsRowed Tryz.prog = true := by kernel_rfl
theorem slices_all : ((List.range Tryz.prog.types.size).all fun t => match Tryz.prog.underlying t with | some (.slice e) => decide (0 < Tryz.prog.cellsOf e) | _ => true) = true := by kernel_rfl
theorem own_knob : ownKnob Tryz.prog.godebug = none := by kernel_rfl

end Go.Proofs.YtolgjekokdimoaaGreatDoor
end

section
namespace Go.Proofs.YtolgjekokdimoaaGreatDoor
variable [LaidG]
open Go.ChangeShapes Go.WideShapes Go.ChangeAt Go.RowKit
set_option linter.unusedVariables false
set_option maxRecDepth 100000
section
variable {H : Type} {enc : TypeId × Value → H} {P : Program} {W W' : World}

theorem laid_mem {name : String} {k : IntKind} {zs : List Int} {g t e n : Nat} (hg : P.globalNamed name = some g) (hty : (P.globals[g]?).map (·.type) = some t) (ht : P.underlying t = some (.array n e)) (he : P.underlying e = some (.int k)) (hce : P.cellsOf e = 1) (hct : P.cellsOf t = n) :
    ∀ {laid : List (String × DataW Unit)} {ps : List MemPlace}, DataW.LaidVars P W laid ps → (name, Lib.tabData k zs) ∈ laid →
      ∃ cs, W.var? P name = some cs ∧ cs.toList = (zs.map fun z => Value.int k z) ∧ ∀ x ∈ MemPlace.row ⟨g, 0, none⟩ cs.size, x ∈ ps
  | [], ps, h, hm => by simp at hm
  | (m, d) :: r, ps, h, hm => by
    obtain ⟨g', t', cs, fuel, p, q, hg', ht', hvar, hd, hr, rfl⟩ := h
    rcases List.mem_cons.1 hm with hm | hm
    · obtain ⟨rfl, rfl⟩ := Prod.mk.inj hm
      obtain rfl := Option.some.inj (hg.symm.trans hg')
      obtain rfl := Option.some.inj (hty.symm.trans ht')
      exact ⟨cs, hvar, Lib.cells_of_tab ht he hce hct hd, fun x hx => by simp [hx]⟩
    · obtain ⟨cs', q1, q2, q3⟩ := laid_mem hg hty ht he hce hct hr hm
      exact ⟨cs', q1, q2, fun x hx => by simp [q3 x hx]⟩

theorem lv_intsZ {k : IntKind} : ∀ {zs : List Int}, (∀ z ∈ zs, inR k z) → Lv W (flatT (.int k) zs.length) (flatP (zs.map (PV.int k))) (zs.map fun z => Value.int k z) []
  | [], _ => .nil
  | z :: zs, h => .int (h z (by simp)) (lv_intsZ (zs := zs) fun x hx => h x (by simp [hx]))

theorem gl_one {name : String} {k : IntKind} {z0 : Int} {zs : List Int} {g t e n : Nat} {laid : List (String × DataW Unit)} (h : laidMet P laid W) (hm : (name, Lib.tabData k (z0 :: zs)) ∈ laid) (hg : P.globalNamed name = some g) (hty : (P.globals[g]?).map (·.type) = some t) (ht : P.underlying t = some (.array n e)) (he : P.underlying e = some (.int k)) (hce : P.cellsOf e = 1) (hct : P.cellsOf t = n)
    (hr : ∀ z ∈ z0 :: zs, inR k z) :
    g ∉ ([] : List Nat) ∧ ∃ c t, W.heap[g]? = some (.cells c t (0, 0)) ∧ flatB (.int k) = true ∧ (∀ e ∈ (z0 :: zs).map (PV.int k), Shp (.int k) e) ∧ Lv W (flatT (.int k) ((z0 :: zs).map (PV.int k)).length) (flatP ((z0 :: zs).map (PV.int k))) c.toList [] := by
  obtain ⟨ps, hL, _, hz⟩ := h
  obtain ⟨cs, q1, q2, q3⟩ := laid_mem hg hty ht he hce hct hL hm
  have hpos : 0 < cs.size := by rw [← Array.length_toList, q2]; simp
  obtain ⟨⟨c, t', hc⟩, _⟩ := hz g 0 (q3 _ (by simp [MemPlace.row]; exact hpos))
  have e : c = cs := by
    unfold World.var? at q1
    rw [hg] at q1
    have q1 : (match W.heap[g]? with | some (.cells cs _ _) => some cs | _ => none) = some cs := q1
    rw [hc] at q1
    exact Option.some.inj q1
  subst e
  refine ⟨by simp, c, t', hc, rfl, fun e he => ?_, ?_⟩
  · obtain ⟨z, hz', rfl⟩ := List.mem_map.1 he
    intro qs h; cases h
  · rw [q2, List.length_map]; exact lv_intsZ hr

theorem lt_of_name {ns : List String} (hall : (ns.all fun n => match (P.globalNamed n).bind fun g => (P.globals[g]?).map (·.type) with | some t => decide (t < P.types.size) | none => true) = true) {n : String} {g t : Nat} (hn : n ∈ ns) (hg : P.globalNamed n = some g) (ht : (P.globals[g]?).map (·.type) = some t) : t < P.types.size := by
  have h := List.all_eq_true.1 hall n hn
  have e : ((P.globalNamed n).bind fun g => (P.globals[g]?).map (·.type)) = some t := by rw [hg]; exact ht
  rw [e] at h
  exact of_decide_eq_true h
theorem var_fr (h : Fr W [] W') {n : String} {cs : Array Value} (hv : W.var? P n = some cs) : W'.var? P n = some cs := by
  unfold World.var? at hv ⊢
  cases hg : P.globalNamed n with
  | none => rw [hg] at hv; cases hv
  | some g =>
    rw [hg] at hv
    show (match W'.heap[g]? with | some (.cells cs _ _) => some cs | _ => none) = _
    have hv : (match W.heap[g]? with | some (.cells cs _ _) => some cs | _ => none) = some cs := hv
    cases hb : W.heap[g]? with
    | none => rw [hb] at hv; cases hv
    | some o =>
      rw [h.block g (Array.getElem?_eq_some_iff.1 hb).1 (by simp)]
      exact hv

theorem weights_pre {y : Nat} : ∀ {ts us : List TypeId} {ds gs : List (DataW H)}, y ∈ DataW.weightsEach P ts ds → y ∈ DataW.weightsEach P (ts ++ us) (ds ++ gs)
  | [], us, ds, gs, h => by cases ds <;> simp [DataW.weightsEach] at h
  | t :: ts, us, [], gs, h => by simp [DataW.weightsEach] at h
  | t :: ts, us, d :: ds, gs, h => by
    simp only [List.cons_append, DataW.weightsEach, List.mem_append] at h ⊢
    exact h.imp id weights_pre

theorem trodVars_len {sp : Nat → Bool} : ∀ {ns : List String} {gs : List (DataW H)} {ps : List MemPlace}, DataW.TrodVars enc P W sp ns gs ps → gs.length = ns.length
  | [], [], _, _ => rfl
  | [], _ :: _, _, h => h.elim
  | _ :: _, [], _, h => h.elim
  | n :: ns, d :: gs, ps, ⟨g, t, cs, fuel, p, q, _, _, _, _, h, _⟩ => by simp [trodVars_len h]

theorem trodVars_fr (K : Kids P (· < P.types.size)) (hsl : ((List.range P.types.size).all fun t => match P.underlying t with | some (.slice e) => decide (0 < P.cellsOf e) | _ => true) = true) (h : Fr W [] W') :
    ∀ {ns : List String} {gs : List (DataW H)} {ps : List MemPlace}, (∀ n ∈ ns, ∀ g t, P.globalNamed n = some g → (P.globals[g]?).map (·.type) = some t → t < P.types.size) → DataW.TrodVars enc P W (fun _ => true) ns gs ps → (∀ x ∈ ps, x.block < W.heap.size) → DataW.TrodVars enc P W' (fun b => decide (b < W.heap.size)) ns gs ps
  | [], [], _, _, h0, _ => h0
  | [], _ :: _, _, _, h0, _ => h0.elim
  | _ :: _, [], _, _, h0, _ => h0.elim
  | n :: ns, d :: gs, ps, hn, ⟨g, t, cs, fuel, p, q, h1, h2, h3, h4, h5, e⟩, hl => by
    subst e
    refine ⟨g, t, cs, fuel, p, q, h1, h2, var_fr h h3, ?_, trodVars_fr K hsl h (fun m hm => hn m (by simp [hm])) h5 fun x hx => hl x (by simp [hx]), rfl⟩
    have h6 := DataW.trod_respare (spare' := fun b => decide (b < W.heap.size)) K (fun t e ht => slices_full_of P hsl t e ht) fuel t cs.toList _ (hn n (by simp) g t h1 h2) h4 (fun x hx => by simpa using hl x (by simp [hx]))
    exact DataW.trod_carry fuel t _ _ h6 fun x hx => sameAt_fr h (hl x (by simp [hx]))

/-- A law's contract is its row's, where the row lists package variables. -/
theorem law_postV {fn : Func} {f : FuncId} {s : ChangeSpec} {c : FSpec} {tb : Nat} {base : Nat} {args : Array Value} {ds gs : List (DataW H)} {before : List MemPlace} (hl : laidOutB P = true) (hmr : mapsRowed P = true)
    (hsl : ((List.range P.types.size).all fun t => match P.underlying t with | some (.slice e) => decide (0 < P.cellsOf e) | _ => true) = true)
    (hdt : ∀ t g l, Dat P t g l → t < P.types.size) (hm : Meets P f c) (hG : GlOk W []) (ha : ArgTys P fn.params.toList c.args) (hpar : ∀ t ∈ fn.params.toList, t < P.types.size) (hb : P.underlying tb = some .bool) (hres : fn.resultTypes = #[tb])
    (hv : ∀ n ∈ s.vars, ∀ g t, P.globalNamed n = some g → (P.globals[g]?).map (·.type) = some t → t < P.types.size)
    (hfn : ∀ H ds gs, ds.length = fn.params.size → gs.length = s.vars.length → (s.fn H (ds ++ gs)).results = [.lit (.bool true)] ∧ (s.fn H (ds ++ gs)).args = ds ∧ (s.fn H (ds ++ gs)).vars = gs)
    (hc : c.ret = [.bool] ∧ c.fresh = true ∧ (∀ ps, c.pre ps) ∧ ∀ ps, c.res ps = [.bool true]) (hrd : allRd c.args = true)
    (hval : ∀ (j : Nat) t v, fn.params[j]? = some t → args[j]? = some v → Value.okWide P W .any base t v)
    (hW : DataW.Whole enc P fn.params.toList s.vars false W args.toList ds gs before)
    (hwt : (DataW.weightsEach P (fn.params.toList ++ s.plain.varTypes P) (ds ++ gs)).all (· ≤ reachBytes) = true) :
    Calls P f args W fun e W' => ∃ v, e = .returned v ∧ s.post enc P fn false true false false W args v W' := by
  have hW' := hW
  have hlt := hW.lt
  obtain ⟨p, q, hA, hV, rfl, hfz, _⟩ := hW
  have hdl : ∀ {ts : List TypeId} {vs : List Value} {ds : List (DataW H)} {ps : List MemPlace}, DataW.TrodAll enc P W 0 (fun _ => true) true ts vs ds ps → ds.length = ts.length := by
    intro ts
    induction ts with
    | nil => intro vs ds ps h; cases vs <;> cases ds <;> simp [DataW.TrodAll] at h ⊢
    | cons t ts ih => intro vs ds ps h; cases vs <;> cases ds <;> simp [DataW.TrodAll] at h ⊢; obtain ⟨_, _, _, h2, _⟩ := h; exact ih h2
  have hlen := hdl hA
  have K := kids_rows hl hmr
  obtain ⟨qs, fs, hargs⟩ := args_lv K hdt ha (fun j t v hj hv' => hval j t v (by simpa using hj) (by simpa using hv')) hA (fun y hy => by simpa using List.all_eq_true.1 hwt y (weights_pre hy))
  obtain ⟨c1, c2, c3, c4⟩ := hc
  obtain ⟨r1, r2, r3⟩ := hfn H ds gs (by simpa using hlen) (trodVars_len hV)
  have hcall := hm W qs _ fs fs [] hargs (by simp) (by simp) (c3 qs) hG
  simp only [Array.toArray_toList] at hcall
  refine hcall.mono fun e W' he => ?_
  obtain ⟨rvs, rfl, hFr, hcase⟩ := he
  have hret : ∃ fr, RetVs W' c.ret (c.res qs) rvs fr := by
    rcases hcase with ⟨_, fr, mo, h, _⟩ | ⟨h, _⟩
    · exact ⟨fr, h⟩
    · rw [c2] at h; cases h
  obtain ⟨fr, hret⟩ := hret
  rw [c1, c4] at hret
  have hrv : rvs = [.bool true] := by
    cases hret with
    | cons h1 h2 =>
      cases h2
      obtain ⟨fs', h1, _⟩ := h1
      cases h1 with
      | bool h => cases h; rfl
  subst hrv
  have hsame : ∀ sp : Nat → Bool, (∀ x ∈ p, sp x.block = true) → DataW.TrodAll enc P W' 0 sp true fn.params.toList args.toList ds p := fun sp hsp =>
    trodAll_fr hFr (hA.respare (T := (· < P.types.size)) K (fun t e ht => slices_full_of P hsl t e ht) hpar hsp) (fun x hx => hlt x (by simp [hx]))
  refine ⟨_, rfl, ds, gs, p ++ q, [], p, q, hW', ?_, ?_, ?_, keptBut_fr hFr _, fun h => by cases h⟩
  · simp only [r1, hres]
    exact trodAll_cons_mk (shut_bool hb _) trodAll_mk0
  · simp only [r2]
    exact hsame _ fun x hx => by simpa using hlt x (by simp [hx])
  · simp only [r3]
    exact trodVars_fr K hsl hFr hv hV fun x hx => hlt x (by simp [hx])

end
end Go.Proofs.YtolgjekokdimoaaGreatDoor
end

