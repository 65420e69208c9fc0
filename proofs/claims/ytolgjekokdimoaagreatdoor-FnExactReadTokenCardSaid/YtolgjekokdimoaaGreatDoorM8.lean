/-
  Part 8 of the proof of FnExactReadToken: a verification-condition generator over the program and the contracts of its functions, in the order of their use.
  Conditions: none.
-/
import Derived.Test.YtolgjekokdimoaaGreatDoorM7
import Derived.Lib.Split
import Derived.Lib.AtoiAll
import Derived.Lib.AtoiErrMem
import Derived.Lib.ItoaLen
import Derived.Lib.AtoiAllCases
import Derived.WalkKit
import Derived.ProofKit
import Derived.OpenShut
import Derived.SizedLaws
import Derived.ReadAgain
import Derived.Lib.LaidTab
import Derived.Handed
import Derived.Shelf.Vars
set_option linter.unusedVariables false
set_option linter.unusedSimpArgs false
set_option linter.unusedSectionVars false

section
namespace Go.Proofs.YtolgjekokdimoaaGreatDoor
variable [LaidG]
variable [LaidN 0] [LaidN 1]
variable [LaidN 5]
set_option maxRecDepth 100000
set_option linter.unusedSimpArgs false

def headL (c : Int) (t : List UInt8) (n : Int) : List UInt8 := [116, 111, 107, 101, 110, 32] ++ (decS c ++ ([32] ++ (t ++ ([32] ++ decS n))))
theorem headL_len {c n : Int} {t : List UInt8} (hc : 0 ≤ c) (hc2 : c ≤ 200) (ht : t.length ≤ 12) (hn : -1 ≤ n) (hn2 : n ≤ 60) : (headL c t n).length ≤ 26 := by
  have l1 := decS_len (n := c) (by omega) (by omega)
  have l2 := decS_len (n := n) (by omega) (by omega)
  simp only [headL, List.length_append, List.length_cons, List.length_nil]
  omega
def toldP (c : Int) (t : List UInt8) (n : Int) : Prop := 0 ≤ c ∧ c ≤ 200 ∧ t.length ≤ 12 ∧ -1 ≤ n ∧ n ≤ 60
def c_tokenHead : FSpec := ⟨[(.rd, .int .i64), (.rd, .str), (.rd, .int .i64)], [.str], true, fun ps => toldP (nth ps 0).I (nth ps 1).S (nth ps 2).I, fun ps => [.str (headL (nth ps 0).I (nth ps 1).S (nth ps 2).I)], fun _ => []⟩
theorem k_tokenHead : FnOk Tryz.prog 62 c_tokenHead := by
  refine fn_mk [0, 1, 2, 6] [.tmp 6] (env_cons (cs := []) k_Itoa (env_nil (tyTab_ok []))) mixed Tryz.func62 rfl (by decide) rfl (by decide) rfl ?_
  intro ps hT hpre W hW
  simp only [c_tokenHead, TyA, Ty, Tys] at hT hpre
  obtain ⟨_, _, rfl, ⟨c, rfl, hc⟩, _, _, rfl, ⟨t, rfl, ht⟩, _, _, rfl, ⟨n, rfl, hn⟩, rfl⟩ := hT
  simp only [nth_zero, nth_succ, pv_I, pv_S, toldP] at hpre
  refine hW.vc [] _ _ ?_
  simp [-List.getD_eq_getElem?_getD, c_tokenHead, c_Itoa]
  obtain ⟨q1, q2, q3, q4, q5⟩ := hpre
  have l1 := decS_len (n := c) (by omega) (by omega)
  have l2 := decS_len (n := n) (by omega) (by omega)
  exact ⟨by omega, by omega, by omega, by omega, by omega, by omega, by omega, rfl⟩
def c_l12Plain : FSpec := c_tokenHead
theorem k_l12Plain : FnOk Tryz.prog 103 c_l12Plain := by
  refine fn_mk [0, 1, 2, 6] [.tmp 6] (env_cons (cs := []) k_l00Digits (env_nil (tyTab_ok []))) mixed Tryz.func103 rfl (by decide) rfl (by decide) rfl ?_
  intro ps hT hpre W hW
  simp only [c_l12Plain, TyA, Ty, Tys] at hT hpre
  simp only [c_tokenHead, TyA, Ty, Tys] at hT hpre
  obtain ⟨_, _, rfl, ⟨c, rfl, hc⟩, _, _, rfl, ⟨t, rfl, ht⟩, _, _, rfl, ⟨n, rfl, hn⟩, rfl⟩ := hT
  simp only [nth_zero, nth_succ, pv_I, pv_S, toldP] at hpre
  refine hW.vc [] _ _ ?_
  simp [-List.getD_eq_getElem?_getD, c_l12Plain, c_l00Digits, c_tokenHead]
  obtain ⟨q1, q2, q3, q4, q5⟩ := hpre
  have l1 := decS_len (n := c) (by omega) (by omega)
  have l2 := decS_len (n := n) (by omega) (by omega)
  exact ⟨by omega, by omega, by omega, by omega, by omega, by omega, by omega, rfl⟩
def c_l12Mark : FSpec := ⟨[(.rd, .str), (.rd, .int .i64), (.rd, .str), (.rd, .int .i64)], [.str], true, fun ps => (nth ps 0).S.length ≤ 1000000 ∧ toldP (nth ps 1).I (nth ps 2).S (nth ps 3).I, fun ps => [.str (markL (nth ps 0).S (headL (nth ps 1).I (nth ps 2).S (nth ps 3).I))], fun _ => []⟩
theorem k_l12Mark : FnOk Tryz.prog 96 c_l12Mark := by
  refine fn_mk [0, 1, 2, 3, 8] [.tmp 8] (env_cons (cs := []) k_l01Hex (env_cons (cs := []) k_l02Hmac (env_cons (cs := []) k_l12Plain (env_nil (tyTab_ok []))))) mixed Tryz.func96 rfl (by decide) rfl (by decide) rfl ?_
  intro ps hT hpre W hW
  simp only [c_l12Mark, TyA, Ty, Tys] at hT hpre
  obtain ⟨_, _, rfl, ⟨key, rfl, hkey⟩, _, _, rfl, ⟨c, rfl, hc⟩, _, _, rfl, ⟨t, rfl, ht⟩, _, _, rfl, ⟨n, rfl, hn⟩, rfl⟩ := hT
  simp only [nth_zero, nth_succ, pv_I, pv_S] at hpre
  refine hW.vc [] _ _ ?_
  simp [-List.getD_eq_getElem?_getD, c_l12Mark, c_l12Plain, c_l02Hmac, c_l01Hex, c_tokenHead, c_hmac, c_hashText, c_tokenHead, c_hmac, c_hashText]
  obtain ⟨q0, hp⟩ := hpre
  have hp' := hp
  obtain ⟨q1, q2, q3, q4, q5⟩ := hp'
  have l1 := headL_len q1 q2 q3 q4 q5
  exact ⟨hp, ⟨q0, by omega⟩, by rw [hmacL_len]; omega, by rw [hexB_len, hmacL_len]; omega, rfl⟩
def tokenL (key : List UInt8) (c : Int) (t : List UInt8) (n : Int) : List UInt8 := headL c t n ++ ([32] ++ markL key (headL c t n))
def c_tokenOf : FSpec := ⟨[(.rd, .str), (.rd, .int .i64), (.rd, .str), (.rd, .int .i64)], [.str], true, fun ps => (nth ps 0).S.length ≤ 1000000 ∧ toldP (nth ps 1).I (nth ps 2).S (nth ps 3).I, fun ps => [.str (tokenL (nth ps 0).S (nth ps 1).I (nth ps 2).S (nth ps 3).I)], fun _ => []⟩
theorem k_tokenOf : FnOk Tryz.prog 58 c_tokenOf := by
  refine fn_mk [0, 1, 2, 3, 8, 9] [.tmp 8] (env_cons (cs := []) k_markOf (env_cons (cs := []) k_tokenHead (env_nil (tyTab_ok [])))) mixed Tryz.func58 rfl (by decide) rfl (by decide) rfl ?_
  intro ps hT hpre W hW
  simp only [c_tokenOf, TyA, Ty, Tys] at hT hpre
  obtain ⟨_, _, rfl, ⟨key, rfl, hkey⟩, _, _, rfl, ⟨c, rfl, hc⟩, _, _, rfl, ⟨t, rfl, ht⟩, _, _, rfl, ⟨n, rfl, hn⟩, rfl⟩ := hT
  simp only [nth_zero, nth_succ, pv_I, pv_S] at hpre
  refine hW.vc [] _ _ ?_
  simp [-List.getD_eq_getElem?_getD, c_tokenOf, c_tokenHead, c_markOf]
  obtain ⟨q0, hp⟩ := hpre
  have hp' := hp
  obtain ⟨q1, q2, q3, q4, q5⟩ := hp'
  have l1 := headL_len q1 q2 q3 q4 q5
  exact ⟨hp, by omega, ⟨q0, by omega⟩, by rw [markL_len]; omega, rfl⟩
def c_l12Issue : FSpec := c_tokenOf
theorem k_l12Issue : FnOk Tryz.prog 60 c_l12Issue := by
  refine fn_mk [0, 1, 2, 3, 8] [.tmp 8] (env_cons (cs := []) k_l12Mark (env_cons (cs := []) k_l12Plain (env_nil (tyTab_ok [])))) mixed Tryz.func60 rfl (by decide) rfl (by decide) rfl ?_
  intro ps hT hpre W hW
  simp only [c_l12Issue, TyA, Ty, Tys] at hT hpre
  simp only [c_tokenOf, TyA, Ty, Tys] at hT hpre
  obtain ⟨_, _, rfl, ⟨key, rfl, hkey⟩, _, _, rfl, ⟨c, rfl, hc⟩, _, _, rfl, ⟨t, rfl, ht⟩, _, _, rfl, ⟨n, rfl, hn⟩, rfl⟩ := hT
  simp only [nth_zero, nth_succ, pv_I, pv_S] at hpre
  refine hW.vc [] _ _ ?_
  simp [-List.getD_eq_getElem?_getD, c_l12Issue, c_l12Plain, c_l12Mark, c_tokenOf, c_tokenHead, c_tokenHead]
  obtain ⟨q0, hp⟩ := hpre
  have hp' := hp
  obtain ⟨q1, q2, q3, q4, q5⟩ := hp'
  have l1 := headL_len q1 q2 q3 q4 q5
  exact ⟨hp, by omega, ⟨q0, hp⟩, by rw [markL_len]; omega, rfl⟩

end Go.Proofs.YtolgjekokdimoaaGreatDoor
end

section
namespace Go.Proofs.YtolgjekokdimoaaGreatDoor
variable [LaidG]
variable [LaidN 0] [LaidN 1]
variable [LaidN 5]
set_option maxRecDepth 100000
set_option linter.unusedSimpArgs false

theorem toldB_P {c n : Int} {t : List UInt8} (h : toldB c t n = true) : toldP c t n := by
  simp only [toldB, wordB, inB, Bool.and_eq_true, decide_eq_true_eq] at h
  unfold toldP
  omega
def longB (a b : List UInt8) : Bool := longN a.length || longN b.length
/-- What issuing and marking answer: a text and a code. -/
def markV (key : List UInt8) (c : Int) (t : List UInt8) (n : Int) : List UInt8 × Int :=
  if longB key t = true then ([], 2) else if toldB c t n = true then (markL key (headL c t n), 0) else ([], 1)
def issueV (key : List UInt8) (c : Int) (t : List UInt8) (n : Int) : List UInt8 × Int :=
  if longB key t = true then ([], 2) else if toldB c t n = true then (tokenL key c t n, 0) else ([], 1)
def c_TokenMark : FSpec := ⟨[(.rd, .str), (.rd, .int .i64), (.rd, .str), (.rd, .int .i64)], [.str, .int .i64], true, fun _ => True, fun ps => [.str (markV (nth ps 0).S (nth ps 1).I (nth ps 2).S (nth ps 3).I).1, .int .i64 (markV (nth ps 0).S (nth ps 1).I (nth ps 2).S (nth ps 3).I).2], fun _ => []⟩
theorem k_TokenMark : FnOk Tryz.prog 24 c_TokenMark := by
  refine fn_mk [0, 1, 2, 3, 8, 9] [.tmp 8, .tmp 9] (env_cons (cs := []) k_markOf (env_cons (cs := []) k_tokenHead (env_cons (cs := []) k_isTold (env_cons (cs := []) k_isLong (env_nil (tyTab_ok [])))))) mixed Tryz.func24 rfl (by decide) rfl (by decide) rfl ?_
  intro ps hT hpre W hW
  simp only [c_TokenMark, TyA, Ty, Tys] at hT hpre
  obtain ⟨_, _, rfl, ⟨key, rfl, hkey⟩, _, _, rfl, ⟨c, rfl, hc⟩, _, _, rfl, ⟨t, rfl, ht⟩, _, _, rfl, ⟨n, rfl, hn⟩, rfl⟩ := hT
  refine hW.vc [] _ _ ?_
  simp [-List.getD_eq_getElem?_getD, c_TokenMark, c_isLong, c_isTold, c_tokenHead, c_markOf]
  refine fun _ _ => ⟨by decide, fun h => ?_, fun h1 h2 => ⟨fun h3 => ?_, fun h3 => ?_⟩⟩
  · have hb : longB key t = true := by rcases h with h | h <;> simp [longB, h]
    simp [markV, hb]
  · have hb : longB key t = false := by simp [longB, h1, h2]
    simp [markV, hb, h3]
  · have hb : longB key t = false := by simp [longB, h1, h2]
    have hp := toldB_P h3
    have hp' := hp
    obtain ⟨q1, q2, q3, q4, q5⟩ := hp'
    have l1 := headL_len q1 q2 q3 q4 q5
    have hk : key.length ≤ 65536 := by simp [longN] at h1; omega
    exact ⟨hp, ⟨by omega, by omega⟩, by simp [markV, hb, h3]⟩
def c_sTokenMark : FSpec := c_TokenMark
def c_IssueToken : FSpec := ⟨[(.rd, .str), (.rd, .int .i64), (.rd, .str), (.rd, .int .i64)], [.str, .int .i64], true, fun _ => True, fun ps => [.str (issueV (nth ps 0).S (nth ps 1).I (nth ps 2).S (nth ps 3).I).1, .int .i64 (issueV (nth ps 0).S (nth ps 1).I (nth ps 2).S (nth ps 3).I).2], fun _ => []⟩
theorem k_IssueToken : FnOk Tryz.prog 22 c_IssueToken := by
  refine fn_mk [0, 1, 2, 3, 8, 9] [.tmp 8, .tmp 9] (env_cons (cs := []) k_tokenOf (env_cons (cs := []) k_isTold (env_cons (cs := []) k_isLong (env_nil (tyTab_ok []))))) mixed Tryz.func22 rfl (by decide) rfl (by decide) rfl ?_
  intro ps hT hpre W hW
  simp only [c_IssueToken, TyA, Ty, Tys] at hT hpre
  obtain ⟨_, _, rfl, ⟨key, rfl, hkey⟩, _, _, rfl, ⟨c, rfl, hc⟩, _, _, rfl, ⟨t, rfl, ht⟩, _, _, rfl, ⟨n, rfl, hn⟩, rfl⟩ := hT
  refine hW.vc [] _ _ ?_
  simp [-List.getD_eq_getElem?_getD, c_IssueToken, c_isLong, c_isTold, c_tokenOf]
  refine fun _ _ => ⟨by decide, fun h => ?_, fun h1 h2 => ⟨fun h3 => ?_, fun h3 => ?_⟩⟩
  · have hb : longB key t = true := by rcases h with h | h <;> simp [longB, h]
    simp [issueV, hb]
  · have hb : longB key t = false := by simp [longB, h1, h2]
    simp [issueV, hb, h3]
  · have hb : longB key t = false := by simp [longB, h1, h2]
    have hp := toldB_P h3
    have hp' := hp
    obtain ⟨q1, q2, q3, q4, q5⟩ := hp'
    have l1 := headL_len q1 q2 q3 q4 q5
    have hk : key.length ≤ 65536 := by simp [longN] at h1; omega
    exact ⟨⟨by omega, hp⟩, by simp [issueV, hb, h3]⟩
def c_sIssueToken : FSpec := c_IssueToken
theorem k_sIssueToken : FnOk Tryz.prog 23 c_sIssueToken := by
  refine fn_mk [0, 1, 2, 3, 8, 9] [.tmp 8, .tmp 9] (env_cons (cs := []) k_l12Issue (env_cons (cs := []) k_l12Ask (env_nil (tyTab_ok [])))) mixed Tryz.func23 rfl (by decide) rfl (by decide) rfl ?_
  intro ps hT hpre W hW
  simp only [c_sIssueToken, TyA, Ty, Tys] at hT hpre
  simp only [c_IssueToken, TyA, Ty, Tys] at hT
  obtain ⟨_, _, rfl, ⟨key, rfl, hkey⟩, _, _, rfl, ⟨c, rfl, hc⟩, _, _, rfl, ⟨t, rfl, ht⟩, _, _, rfl, ⟨n, rfl, hn⟩, rfl⟩ := hT
  refine hW.vc [] _ _ ?_
  simp [-List.getD_eq_getElem?_getD, c_sIssueToken, c_l12Ask, c_l12Issue, c_IssueToken, c_isTold, c_tokenOf, c_isTold, c_tokenOf]
  refine fun _ _ => ⟨fun h => ?_, fun h1 h2 => ⟨fun h3 => ?_, fun h3 => ?_⟩⟩
  · have hb : longB key t = true := by simp [longB, longN]; omega
    simp [issueV, hb]
  · have hb : longB key t = false := by simp [longB, longN]; omega
    simp [issueV, hb, h3]
  · have hb : longB key t = false := by simp [longB, longN]; omega
    have hp := toldB_P h3
    exact ⟨⟨by omega, hp⟩, by simp [issueV, hb, h3]⟩

def c_exTokenMark : FSpec := ⟨[(.rd, .str), (.rd, .int .i64), (.rd, .str), (.rd, .int .i64)], [.bool], true, fun _ => True, fun _ => [.bool true], fun _ => []⟩
def c_exIssueToken : FSpec := c_exTokenMark
end Go.Proofs.YtolgjekokdimoaaGreatDoor
end

section
namespace Go.Proofs.YtolgjekokdimoaaGreatDoor
open Go.Lib

/-- The parts of a text, behind what the first part has already. -/
def cutA (x : UInt8) : List UInt8 → List UInt8 → List (List UInt8)
  | acc, [] => [acc]
  | acc, c :: l => if c = x then acc :: cutA x [] l else cutA x (acc ++ [c]) l
theorem cutA_no {x : UInt8} : ∀ (s acc : List UInt8), (∀ c ∈ s, c ≠ x) → cutA x acc s = [acc ++ s]
  | [], acc, _ => by simp [cutA]
  | c :: s, acc, h => by
    rw [cutA, if_neg (h c (by simp)), cutA_no s _ fun y hy => h y (by simp [hy])]; simp
theorem cutA_hit {x : UInt8} : ∀ (a b acc : List UInt8), (∀ c ∈ a, c ≠ x) → cutA x acc (a ++ x :: b) = (acc ++ a) :: cutA x [] b
  | [], b, acc, _ => by rw [List.nil_append, cutA, if_pos rfl, List.append_nil]
  | c :: a, b, acc, h => by
    rw [List.cons_append, cutA, if_neg (h c (by simp)), cutA_hit a b _ fun y hy => h y (by simp [hy])]; simp
theorem index_one (x : UInt8) : ∀ s : List UInt8, (index s [x] = -1 ∧ ∀ c ∈ s, c ≠ x) ∨ ∃ a b, s = a ++ x :: b ∧ (∀ c ∈ a, c ≠ x) ∧ index s [x] = a.length
  | [] => .inl ⟨rfl, by simp⟩
  | c :: s => by
    by_cases hc : x = c
    · subst hc
      exact .inr ⟨[], s, rfl, by simp, by simp [index]⟩
    · have hp : ([x].isPrefixOf (c :: s)) = false := by simp [List.isPrefixOf, hc]
      rcases index_one x s with ⟨h1, h2⟩ | ⟨a, b, h1, h2, h3⟩
      · refine .inl ⟨by simp [index, hp, h1], fun y hy => ?_⟩
        rcases List.mem_cons.1 hy with rfl | hy
        · exact fun e => hc e.symm
        · exact h2 y hy
      · refine .inr ⟨c :: a, b, by rw [h1]; rfl, fun y hy => ?_, ?_⟩
        · rcases List.mem_cons.1 hy with rfl | hy
          · exact fun e => hc e.symm
          · exact h2 y hy
        · have : ¬ (index s [x] == -1) = true := by rw [h3]; simp <;> omega
          rw [index, hp, if_neg (by decide), if_neg this, h3, List.length_cons]; omega
theorem split_cut (x : UInt8) : ∀ (n : Nat) (s : List UInt8), s.length ≤ n → splitK [x] 0 (count s [x]) s = cutA x [] s := by
  intro n
  induction n with
  | zero =>
    intro s h
    have : s = [] := List.eq_nil_of_length_eq_zero (by omega)
    subst this
    rfl
  | succ n ih =>
    intro s h
    rcases index_one x s with ⟨h1, h2⟩ | ⟨a, b, h1, h2, h3⟩
    · rw [count_miss h1, cutA_no s [] h2]; rfl
    · have hne : ¬ (index s [x] == -1) = true := by rw [h3]; simp <;> omega
      rw [count_hit (by simp) h3, Nat.add_comm, splitK, if_neg hne, h3]
      have hd : s.drop (((a.length : Int).toNat) + [x].length) = b := by
        rw [h1, Int.toNat_natCast]; simp [List.drop_append]
      have hd' : s.drop (a.length + [x].length) = b := by
        rw [h1]; simp [List.drop_append]
      rw [hd, hd', ih b (by rw [h1] at h; simp at h; omega), h1, cutA_hit a b [] h2]
      simp
theorem cut_count (x : UInt8) : ∀ (n : Nat) (s : List UInt8), s.length ≤ n → (cutA x [] s).length = count s [x] + 1 := by
  intro n
  induction n with
  | zero =>
    intro s h
    have : s = [] := List.eq_nil_of_length_eq_zero (by omega)
    subst this
    rfl
  | succ n ih =>
    intro s h
    rcases index_one x s with ⟨h1, h2⟩ | ⟨a, b, h1, h2, h3⟩
    · rw [count_miss h1, cutA_no s [] h2]; rfl
    · rw [count_hit (by simp) h3]
      have hd' : s.drop (a.length + [x].length) = b := by
        rw [h1]; simp [List.drop_append]
      rw [hd', h1, cutA_hit a b [] h2, List.length_cons, ih b (by rw [h1] at h; simp at h; omega), Nat.add_comm 1]
theorem cutA_ne {x : UInt8} : ∀ (s acc : List UInt8), cutA x acc s ≠ []
  | [], acc => by simp [cutA]
  | c :: s, acc => by rw [cutA]; split; · simp
                      · exact cutA_ne s _
theorem cutA_len {x : UInt8} : ∀ (s acc : List UInt8), (cutA x acc s).length ≤ s.length + 1
  | [], acc => by simp [cutA]
  | c :: s, acc => by
    rw [cutA]; split
    · have := cutA_len (x := x) s []
      simp; omega
    · have := cutA_len (x := x) s (acc ++ [c])
      simp; omega
theorem cutA_part {x : UInt8} : ∀ (s acc : List UInt8), ∀ p ∈ cutA x acc s, p.length ≤ acc.length + s.length
  | [], acc, p, h => by simp [cutA] at h; simp [h]
  | c :: s, acc, p, h => by
    rw [cutA] at h
    split at h
    · rcases List.mem_cons.1 h with rfl | h
      · omega
      · have := cutA_part s [] p h
        simp at this ⊢; omega
    · have := cutA_part s (acc ++ [c]) p h
      simp at this ⊢; omega
/-- The parts, joined again. -/
def joinA (x : UInt8) : List (List UInt8) → List UInt8
  | [] => []
  | [p] => p
  | p :: q :: r => p ++ x :: joinA x (q :: r)
theorem join_cut {x : UInt8} : ∀ (s acc : List UInt8), joinA x (cutA x acc s) = acc ++ s
  | [], acc => by simp [cutA, joinA]
  | c :: s, acc => by
    rw [cutA]
    split
    · rename_i h
      subst h
      cases hc : cutA c [] s with
      | nil => exact absurd hc (cutA_ne _ _)
      | cons q r =>
        rw [joinA, ← hc, join_cut s []]; simp
    · rw [join_cut s (acc ++ [c])]; simp

end Go.Proofs.YtolgjekokdimoaaGreatDoor
end

section
namespace Go.Proofs.YtolgjekokdimoaaGreatDoor
variable [LaidG]
variable [LaidN 2]
open Go.Shelf Go.RowKit
set_option maxRecDepth 100000
set_option linter.unusedVariables false

section
variable {w : World}
theorem lv_strs : ∀ {L : List ByteArray}, (∀ b ∈ L, b.data.toList.length ≤ LIM) → Lv w (flatT .str L.length) (flatP (L.map fun b => PV.str b.data.toList)) (L.map Value.string) []
  | [], _ => .nil
  | b :: L, h => Lv.str (h b (by simp)) (lv_strs (L := L) fun x hx => h x (by simp [hx]))
theorem split_ret {L : List ByteArray} {t n : Nat} (hn : L.length = n) (hne : L ≠ []) (hl : ∀ b ∈ L, b.data.toList.length ≤ LIM) (hlim : L.length ≤ LIM) :
    RetVs (w.alloc (.cells (L.map Value.string).toArray t)) [.list .str] [.list (L.map fun b => PV.str b.data.toList)] [.slice (some ⟨w.heap.size, 0, none⟩) n n] [w.heap.size] := by
  subst hn
  have hb : (w.alloc (.cells (L.map Value.string).toArray t)).heap[w.heap.size]? = some (.cells (L.map Value.string).toArray t (0, 0)) := Array.getElem?_push_size
  have hS : ∀ e ∈ L.map (fun b => PV.str b.data.toList), Shp .str e := by
    intro e he
    obtain ⟨b, _, rfl⟩ := List.mem_map.1 he
    intro qs h; cases h
  have hO : OwnD (w.alloc (.cells (L.map Value.string).toArray t)) (.slice (some ⟨w.heap.size, 0, none⟩) L.length L.length) .str (L.map fun b => PV.str b.data.toList) [w.heap.size] := by
    refine ownS_D rfl (.inr ⟨w.heap.size, [], L.map Value.string, rfl, ⟨⟨0, L.length, _, t, (0, 0), by rw [List.length_map], hb, ?_, ?_, ?_, NoFz.none _ _, ?_⟩, ?_, ?_⟩, hS, ?_⟩)
    · simp [PTy.wd, PTy.leaves]
    · simp
    · unfold maxLen; unfold LIM at hlim; omega
    · show ((L.map Value.string).drop 0).take (L.map Value.string).length = _
      rw [List.drop_zero, List.take_length]
    · simp [PTy.wd, PTy.leaves]
    · simpa using hlim
    · rw [List.length_map]; exact lv_strs hl
  have := RetVs.cons (t := .list .str) ⟨[[w.heap.size]], .list hO .nil, rfl⟩ (RetVs.nil (w := w.alloc (.cells (L.map Value.string).toArray t)))
  simpa using this
end

theorem cell_is {w : World} {X : List Nat} {g : Nat} {b : Bool} (h : GlOk w X) (hg : lk GE g = some b) (hl : LaidG.s g = true) : ∃ v, w.cell? ⟨g, 0, none⟩ = some v ∧ GlV b v := by
  obtain ⟨_, v, t, q, r⟩ := h.one g b hg hl
  exact ⟨v, by simp [World.cell?, q], r⟩
def cutP (x : UInt8) (t : List UInt8) : List PV := (cutA x [] t).map PV.str
def c_Split : FSpec := ⟨[(.rd, .str), (.rd, .str)], [.list .str], true, fun ps => (nth ps 1).S.length = 1 ∧ (nth ps 0).S.length ≤ 1048576, fun ps => [.list (cutP ((nth ps 1).S.headD 0) (nth ps 0).S)], fun _ => []⟩
theorem splitB_cut (x : UInt8) (l : List UInt8) : (Lib.splitB ⟨[x].toArray⟩ 0 (Lib.countB ⟨l.toArray⟩ ⟨[x].toArray⟩) ⟨l.toArray⟩).map (fun b => PV.str b.data.toList) = cutP x l := by
  have h := Lib.splitB_data ⟨[x].toArray⟩ 0 (Lib.countB ⟨l.toArray⟩ ⟨[x].toArray⟩) ⟨l.toArray⟩
  have h2 : (Lib.splitB ⟨[x].toArray⟩ 0 (Lib.countB ⟨l.toArray⟩ ⟨[x].toArray⟩) ⟨l.toArray⟩).map (·.data.toList) = cutA x [] l := by
    rw [h]
    exact split_cut x l.length l (Nat.le_refl _)
  rw [cutP, ← h2, List.map_map]; rfl
theorem meets_Split : Meets Tryz.prog 97 c_Split := by
  intro w ps vs fs fl ms hA hnd hdj hpre hgl
  cases hA with
  | rd h1 hA => cases hA with
  | rd h2 hA =>
  cases hA
  obtain ⟨h1, rfl⟩ := h1
  obtain ⟨h2, rfl⟩ := h2
  cases h1 with | str hl h1 =>
  cases h1
  cases h2 with | str hl2 h2 =>
  cases h2
  rename_i l x
  obtain ⟨p1, p2⟩ := hpre
  simp only [nth, List.getD_cons_zero, List.getD_cons_succ, PV.S] at p1 p2
  obtain ⟨x, rfl⟩ : ∃ y, x = [y] := by
    match x, p1 with
    | [y], _ => exact ⟨y, rfl⟩
  obtain ⟨_, hm, m, rfl⟩ := cell_is hgl (g := 2) (b := false) rfl (by simp)
  refine (lay_strings_Split ⟨l.toArray⟩ ⟨[x].toArray⟩ m w (by show l.toArray.size < _; simp; omega) hm (Nat.le_refl 1)).mono ?_
  rintro e w' ⟨rfl, rfl⟩
  have hcut := splitB_cut x l
  have hcl := cutA_len (x := x) l []
  have hct := cut_count x l.length l (Nat.le_refl _)
  have hlen : (Lib.splitB ⟨[x].toArray⟩ 0 (Lib.countB ⟨l.toArray⟩ ⟨[x].toArray⟩) ⟨l.toArray⟩).length = Lib.countB ⟨l.toArray⟩ ⟨[x].toArray⟩ + 1 := by
    have h1 := congrArg List.length hcut
    simp only [cutP, List.length_map] at h1
    rw [h1]; exact hct
  have hall : ∀ b ∈ Lib.splitB ⟨[x].toArray⟩ 0 (Lib.countB ⟨l.toArray⟩ ⟨[x].toArray⟩) ⟨l.toArray⟩, b.data.toList.length ≤ LIM := by
    intro b hb
    have h1 : PV.str b.data.toList ∈ cutP x l := by rw [← hcut]; exact List.mem_map.2 ⟨b, hb, rfl⟩
    obtain ⟨p, hp, e⟩ := List.mem_map.1 h1
    cases e
    have := cutA_part l [] _ hp
    simp only [List.length_nil] at this
    unfold LIM; omega
  have hret := split_ret (w := w) (t := 9) hlen (by intro e; rw [e] at hlen; simp at hlen) hall (by rw [hlen]; unfold LIM; have : Lib.countB ⟨l.toArray⟩ ⟨[x].toArray⟩ + 1 = (cutA x [] l).length := hct.symm; omega)
  rw [hcut] at hret
  exact ⟨_, rfl, Fr.alloc (Fr.refl w _) _, .inl ⟨rfl, _, [], hret, .rd (.rd .nil), by simp, fun x hx => by simp at hx; omega⟩⟩
theorem k_Split : FnOk Tryz.prog 97 c_Split := ⟨meets_Split, _, Tryz.func97, rfl, by decide⟩

end Go.Proofs.YtolgjekokdimoaaGreatDoor
end

section
namespace Go.Proofs.YtolgjekokdimoaaGreatDoor
open Go.Lib

/-- The reference's loop over digits. -/
def dgV (n : Nat) : List UInt8 → Option Nat
  | [] => some n
  | c :: l => if 48 ≤ c.toNat ∧ c.toNat ≤ 57 then dgV (n * 10 + (c.toNat - 48)) l else none
def magN (neg : Bool) (t : List UInt8) : Option Nat :=
  if t.length = 0 ∨ 18 < t.length ∨ (t.getD 0 0 = 48 ∧ (1 < t.length ∨ neg = true)) then none else dgV 0 t
/-- The number that a text is, of at most 18 digits and none needless ahead. -/
def numN (t : List UInt8) : Option Int :=
  if 0 < t.length ∧ t.getD 0 0 = 45 then (magN true (t.drop 1)).map fun m : Nat => -(m : Int) else (magN false t).map fun m : Nat => (m : Int)
/-- What is behind a '-'. -/
def trimN (t : List UInt8) : List UInt8 := if 0 < t.length ∧ t.getD 0 0 = 45 then t.drop 1 else t
/-- What the program makes of a text. -/
def intN (t : List UInt8) : Option Int :=
  match atoiAll t with
  | .ok n => if 18 < (trimN t).length ∨ itoa n ≠ t then none else some n
  | _ => none

theorem parse_dgV : ∀ (l : List UInt8) (acc : Nat), l.length ≤ 18 → acc < 10 ^ (18 - l.length) → parseUint10 acc l = match dgV acc l with | some m => .ok m | none => parseMag []
  | [], acc, _, _ => rfl
  | c :: l, acc, hl, ha => by
    simp only [List.length_cons] at hl ha
    have e : 10 ^ (18 - l.length) = 10 * 10 ^ (18 - (l.length + 1)) := by
      rw [show 18 - l.length = (18 - (l.length + 1)) + 1 by omega, Nat.pow_succ, Nat.mul_comm]
    have hp : 10 ^ (18 - (l.length + 1)) ≤ 10 ^ 17 := Nat.pow_le_pow_right (by decide) (by omega)
    have hp' : (10 : Nat) ^ 17 = 100000000000000000 := by decide
    rw [parseUint10, dgV]
    by_cases hc : 48 ≤ c.toNat ∧ c.toNat ≤ 57
    · rw [if_pos hc, if_pos hc, if_neg (by omega), if_neg (by omega)]
      exact parse_dgV l _ (by omega) (by omega)
    · simp only [if_neg hc]; first | done | rfl

/-- The digits' value. -/
def valF (n : Nat) (l : List UInt8) : Nat := l.foldl (fun a c => a * 10 + (c.toNat - 48)) n
theorem dgV_val : ∀ (l : List UInt8) (n m : Nat), dgV n l = some m → (∀ c ∈ l, 48 ≤ c.toNat ∧ c.toNat ≤ 57) ∧ m = valF n l
  | [], n, m, h => by simp only [dgV, Option.some.injEq] at h; subst h; exact ⟨by simp, rfl⟩
  | c :: l, n, m, h => by
    rw [dgV] at h
    by_cases hc : 48 ≤ c.toNat ∧ c.toNat ≤ 57
    · rw [if_pos hc] at h
      obtain ⟨h1, h2⟩ := dgV_val l _ m h
      refine ⟨fun x hx => ?_, h2⟩
      rcases List.mem_cons.1 hx with rfl | hx
      · exact hc
      · exact h1 x hx
    · rw [if_neg hc] at h; cases h
theorem val_dgV : ∀ (l : List UInt8) (n : Nat), (∀ c ∈ l, 48 ≤ c.toNat ∧ c.toNat ≤ 57) → dgV n l = some (valF n l)
  | [], n, _ => rfl
  | c :: l, n, h => by
    rw [dgV, if_pos (h c (by simp)), val_dgV l _ fun x hx => h x (by simp [hx])]; rfl
theorem valF_ge : ∀ (l : List UInt8) (n : Nat), n ≤ valF n l
  | [], n => Nat.le_refl _
  | c :: l, n => by
    have := valF_ge l (n * 10 + (c.toNat - 48))
    show n ≤ valF (n * 10 + (c.toNat - 48)) l
    omega
theorem byte_of (c : UInt8) (h : 48 ≤ c.toNat) : UInt8.ofNat (48 + (c.toNat - 48)) = c := by
  rw [show 48 + (c.toNat - 48) = c.toNat by omega]; simp
/-- Digits without a needless zero ahead are their number's numeral. -/
theorem dec_val : ∀ (k : Nat) (l : List UInt8), l.length = k → l ≠ [] → (∀ c ∈ l, 48 ≤ c.toNat ∧ c.toNat ≤ 57) → (l.getD 0 0 = 48 → l.length = 1) → decDigits (valF 0 l) = l
  | 0, l, hk, h0, _, _ => absurd (List.eq_nil_of_length_eq_zero hk) h0
  | k + 1, l, hk, h0, hd, hz => by
    obtain ⟨l', c, rfl⟩ : ∃ l' c, l = l' ++ [c] := ⟨l.dropLast, l.getLast h0, (List.dropLast_concat_getLast h0).symm⟩
    have hc := hd c (by simp)
    have hv : valF 0 (l' ++ [c]) = valF 0 l' * 10 + (c.toNat - 48) := by simp [valF]
    rw [hv]
    cases l' with
    | nil =>
      show decDigits (0 * 10 + (c.toNat - 48)) = [c]
      rw [Nat.zero_mul, Nat.zero_add, decDigits, dif_pos (by omega), byte_of c hc.1]
    | cons a l'' =>
      have ha := hd a (by simp)
      have hne : a.toNat ≠ 48 := fun e => by
        have e' : a = 48 := by apply UInt8.toNat_inj.1; rw [e]; rfl
        have := hz (by simp [e'])
        simp at this
      have h1 : 1 ≤ valF 0 (a :: l'') := by
        have := valF_ge l'' (0 * 10 + (a.toNat - 48))
        show 1 ≤ valF (0 * 10 + (a.toNat - 48)) l''
        omega
      have ih := dec_val k (a :: l'') (by simpa using hk) (by simp) (fun x hx => hd x (by rw [List.mem_append]; exact .inl hx)) fun e => absurd (by simp at e; rw [e]; rfl) hne
      rw [decDigits, dif_neg (by omega), show (valF 0 (a :: l'') * 10 + (c.toNat - 48)) / 10 = valF 0 (a :: l'') by omega, ih, show (valF 0 (a :: l'') * 10 + (c.toNat - 48)) % 10 = c.toNat - 48 by omega, byte_of c hc.1]
theorem dec_ne (u : Nat) : decDigits u ≠ [] := by
  rw [decDigits]; split <;> simp
theorem dec_head (u : Nat) : 1 ≤ u → (decDigits u).getD 0 0 ≠ 48 := by
  induction u using Nat.strongRecOn with
  | _ u ih =>
    intro h1
    by_cases h : u < 10
    · rw [decDigits, dif_pos h]
      intro e
      have e' : (UInt8.ofNat (48 + u)).toNat = 48 := by rw [List.getD_cons_zero] at e; rw [e]; rfl
      rw [UInt8.toNat_ofNat', Nat.mod_eq_of_lt (by omega)] at e'
      omega
    · rw [decDigits, dif_neg h]
      have := ih (u / 10) (by omega) (by omega)
      cases hd : decDigits (u / 10) with
      | nil => exact absurd hd (dec_ne _)
      | cons a r => rw [hd] at this; simpa using this
theorem dec_dig (u : Nat) : ∀ c ∈ decDigits u, 48 ≤ c.toNat ∧ c.toNat ≤ 57 := by
  induction u using Nat.strongRecOn with
  | _ u ih =>
    intro c hc
    by_cases h : u < 10
    · rw [decDigits, dif_pos h] at hc
      simp only [List.mem_singleton] at hc
      rw [hc, UInt8.toNat_ofNat', Nat.mod_eq_of_lt (by omega)]
      omega
    · rw [decDigits, dif_neg h, List.mem_append] at hc
      rcases hc with hc | hc
      · exact ih (u / 10) (by omega) c hc
      · simp only [List.mem_singleton] at hc
        rw [hc, UInt8.toNat_ofNat', Nat.mod_eq_of_lt (by omega)]
        omega
/-- A row of at most 18 digits: parsed and spelled again. -/
theorem mag_eq (neg : Bool) (r : List UInt8) (hr : r.length ≤ 18) :
    magN neg r = match parseMag r with | .ok u => if decDigits u = r ∧ (neg = true → 1 ≤ u) then some u else none | _ => none := by
  unfold parseMag magN
  by_cases h0 : r = []
  · subst h0; simp
  · have hl : r.length ≠ 0 := fun e => h0 (List.eq_nil_of_length_eq_zero e)
    rw [if_neg h0, parse_dgV r 0 hr (Nat.pow_pos (by decide))]
    cases hd : dgV 0 r with
    | none => split <;> rfl
    | some u =>
      obtain ⟨h1, h2⟩ := dgV_val r 0 u hd
      simp only
      by_cases hz : r.getD 0 0 = 48 ∧ (1 < r.length ∨ neg = true)
      · rw [if_pos (by simp only [hz]; simp), if_neg]
        rintro ⟨e1, e2⟩
        by_cases hu : 1 ≤ u
        · exact dec_head u hu (by rw [e1]; exact hz.1)
        · have hu0 : u = 0 := by omega
          rcases hz.2 with h3 | h3
          · rw [← e1, hu0] at h3; simp [decDigits] at h3
          · exact hu (e2 h3)
      · rw [if_neg (by rintro (q | q | q); exact hl q; omega; exact hz q), if_pos]
        refine ⟨?_, fun hn => ?_⟩
        · rw [h2]
          exact dec_val r.length r rfl h0 h1 fun e => by
            have : ¬ 1 < r.length := fun q => hz ⟨e, .inl q⟩
            omega
        · have hne : r.getD 0 0 ≠ 48 := fun e => hz ⟨e, .inr hn⟩
          cases r with
          | nil => exact absurd rfl h0
          | cons a l =>
            have ha := h1 a (by simp)
            have : a.toNat ≠ 48 := fun e => hne (by simp; apply UInt8.toNat_inj.1; rw [e]; rfl)
            have := valF_ge l (0 * 10 + (a.toNat - 48))
            rw [h2]
            show 1 ≤ valF (0 * 10 + (a.toNat - 48)) l
            omega
theorem parseMag_lt18 {r : List UInt8} {u : Nat} (h : decDigits u = r) (hr : r.length ≤ 18) : u < 1000000000000000000 := by
  have h1 := lt_pow_nDigits u
  rw [← decDigits_length, h] at h1
  have h2 : 10 ^ r.length ≤ 10 ^ 18 := Nat.pow_le_pow_right (by decide) hr
  have : (10 : Nat) ^ 18 = 1000000000000000000 := by decide
  omega
theorem itoa_m (u : Nat) : itoa (-(u : Int)) = if u = 0 then [48] else 45 :: decDigits u := by
  unfold itoa
  by_cases h : u = 0
  · subst h; simp [decDigits]
  · rw [if_pos (by omega), if_neg h]; simp
theorem itoa_p (u : Nat) : itoa (u : Int) = decDigits u := by
  unfold itoa; rw [if_neg (by omega)]; simp
/-- The program's reading and the reference's are one. -/
theorem int_num (t : List UInt8) : intN t = numN t := by
  cases t with
  | nil => simp [intN, numN, atoiAll, magN]
  | cons c r =>
    by_cases h45 : c = 45
    · subst h45
      have hN : numN (45 :: r) = (magN true r).map fun m : Nat => -(m : Int) := by simp [numN]
      have hT : trimN (45 :: r) = r := by simp [trimN]
      rw [hN, intN, hT]
      by_cases hr : r.length ≤ 18
      · rw [mag_eq true r hr]
        have hA : atoiAll (45 :: r) = match parseMag r with | .ok u => if 9223372036854775808 < u then .range else .ok (-(u : Int)) | .range => .range | _ => atoiAll [] := by
          simp [atoiAll]; cases parseMag r <;> rfl
        rw [hA]
        cases hp : parseMag r
        rotate_left 1
        · rfl
        · rfl
        · rename_i u
          dsimp only
          by_cases hd : decDigits u = r ∧ (true = true → 1 ≤ u)
          · have hlt := parseMag_lt18 hd.1 hr
            rw [if_pos hd, if_neg (by omega)]
            dsimp only
            rw [if_neg]
            · rfl
            · have := hd.2 rfl
              rw [itoa_m, if_neg (by omega), hd.1]
              simp; omega
          · rw [if_neg hd]
            by_cases hb : 9223372036854775808 < u
            · rw [if_pos hb]; rfl
            · rw [if_neg hb]
              dsimp only
              rw [if_pos]
              · rfl
              · right
                rw [itoa_m]
                by_cases hu : u = 0
                · rw [if_pos hu]; simp
                · rw [if_neg hu]
                  intro e
                  exact hd ⟨by simpa using e, fun _ => by omega⟩
      · have hm : magN true r = none := by rw [magN, if_pos (.inr (.inl (by omega)))]
        rw [hm]
        cases atoiAll (45 :: r) with
        | ok n => simp only; rw [if_pos (.inl (by omega))]; rfl
        | range => rfl
        | _ => rfl
    · have hN : numN (c :: r) = (magN false (c :: r)).map fun m : Nat => (m : Int) := by simp [numN, h45]
      have hT : trimN (c :: r) = c :: r := by simp [trimN, h45]
      have hn45 : c.toNat ≠ 45 := fun e => h45 (UInt8.toNat_inj.1 (by rw [e]; rfl))
      rw [hN, intN, hT]
      by_cases hr : (c :: r).length ≤ 18
      · rw [mag_eq false (c :: r) hr]
        by_cases h43 : c.toNat = 43
        · have hp : parseMag (c :: r) = parseMag [] := by
            unfold parseMag
            rw [if_neg (by simp), if_pos rfl, parseUint10, if_neg (by omega)]
          rw [hp]
          cases hA : atoiAll (c :: r) with
          | ok n =>
            dsimp only
            rw [if_pos]
            · rfl
            · right
              intro e
              have hc : c ∈ itoa n := by rw [e]; simp
              unfold itoa at hc e
              by_cases hneg : n < 0
              · rw [if_pos hneg] at e
                have e1 := (List.cons.inj e).1
                rw [← e1] at h43; exact absurd h43 (by decide)
              · rw [if_neg hneg] at hc
                have := dec_dig _ c hc
                omega
          | range => rfl
          | _ => rfl
        · have hA : atoiAll (c :: r) = match parseMag (c :: r) with | .ok u => if 9223372036854775808 ≤ u then .range else .ok (u : Int) | .range => .range | _ => atoiAll [] := by
            simp [atoiAll, hn45, h43]; cases parseMag (c :: r) <;> rfl
          rw [hA]
          cases hp : parseMag (c :: r)
          rotate_left 1
          · rfl
          · rfl
          · rename_i u
            dsimp only
            by_cases hd : decDigits u = c :: r
            · have hlt := parseMag_lt18 hd hr
              rw [if_neg (show ¬ 9223372036854775808 ≤ u by omega), if_pos (show decDigits u = c :: r ∧ (false = true → 1 ≤ u) from ⟨hd, by simp⟩)]
              dsimp only
              rw [if_neg]
              · rfl
              · rw [itoa_p, hd]; simp only [List.length_cons] at hr ⊢; simp; omega
            · rw [if_neg (show ¬ (decDigits u = c :: r ∧ (false = true → 1 ≤ u)) from fun q => hd q.1)]
              by_cases hb : 9223372036854775808 ≤ u
              · rw [if_pos hb]; rfl
              · rw [if_neg hb]
                dsimp only
                rw [if_pos]
                · rfl
                · right; rw [itoa_p]; exact hd
      · have hm : magN false (c :: r) = none := by rw [magN, if_pos (.inr (.inl (by omega)))]
        rw [hm]
        cases atoiAll (c :: r) with
        | ok n => simp only; rw [if_pos (.inl (by omega))]; rfl
        | range => rfl
        | _ => rfl

end Go.Proofs.YtolgjekokdimoaaGreatDoor
end

section
namespace Go.Proofs.YtolgjekokdimoaaGreatDoor
variable [LaidG]
variable [LaidN 5]
variable [LaidN 2]
variable [LaidN 3] [LaidN 4]
open Go.Shelf Go.RowKit
set_option maxRecDepth 100000
set_option linter.unusedSimpArgs false
set_option linter.unusedVariables false

def numV (t : List UInt8) : Int × Bool := match numN t with | some n => (n, true) | none => (0, false)
theorem numV_a {t : List UInt8} (h : numN t = none) : numV t = (0, false) := by rw [numV, h]
theorem numV_b {t : List UInt8} {n : Int} (h : numN t = some n) : numV t = (n, true) := by rw [numV, h]
def c_readInteger : FSpec := ⟨[(.rd, .str)], [.int .i64, .bool], true, fun ps => (nth ps 0).S.length ≤ 1048576, fun ps => [.int .i64 (numV (nth ps 0).S).1, .bool (numV (nth ps 0).S).2], fun _ => []⟩

theorem fr_below {w w' : World} (h : Below w.heap.size w w') : Fr w [] w' := ⟨h.os, h.tape, h.output, h.size, fun k hk _ => h.block k hk⟩
theorem call_atoi (l : List UInt8) (hl : l.length ≤ 1048576) (w : World) (X : List Nat) (hG : GlOk w X) :
    Calls Tryz.prog 126 #[.string ⟨l.toArray⟩] w fun e w' => ∃ v ev, e = .returned (.tuple #[.int .i64 v, ev]) ∧ Fr w [] w' ∧ (∀ n, Lib.atoiAll l = .ok n → v = n ∧ ev = .nilIface) ∧ ((∀ n, Lib.atoiAll l ≠ .ok n) → ∃ t a, ev = .iface t (.pointer (some ⟨a, 0, none⟩))) := by
  cases h : Lib.atoiAll l with
  | ok n =>
    refine (lay_strconv_Atoi_ok ⟨l.toArray⟩ (by show l.toArray.size ≤ _; simp; omega) n h w).mono ?_
    rintro e w' ⟨rfl, hw⟩
    refine ⟨n, .nilIface, rfl, ?_, fun m hm => ?_, fun hm => absurd rfl (hm n)⟩
    · rcases hw with rfl | ⟨t, rfl⟩
      · exact Fr.refl _ _
      · exact fr_below (Lib.bytesWorld_below w 5 t)
    · cases hm; exact ⟨rfl, rfl⟩
  | range =>
    obtain ⟨ev, h1, h2⟩ := cell_is hG (g := 4) (b := true) rfl (by simp)
    refine (lay_strconv_Atoi_range ⟨l.toArray⟩ (by show l.toArray.size ≤ _; simp; omega) h ev w h1 h2).mono ?_
    rintro e w' ⟨N, rfl, _, _, hB⟩
    exact ⟨_, _, rfl, fr_below hB, (fun m hm => by cases hm), fun _ => ⟨_, _, rfl⟩⟩
  | _ =>
    obtain ⟨ev, h1, h2⟩ := cell_is hG (g := 3) (b := true) rfl (by simp)
    refine (Any.strconv_Atoi_syntax lay_laysC172 ⟨l.toArray⟩ (by show l.toArray.size ≤ _; simp; omega) h ev w h1 h2).mono ?_
    rintro e w' ⟨N, rfl, _, _, hB⟩
    exact ⟨_, _, rfl, fr_below hB, (fun m hm => by cases hm), fun _ => ⟨_, _, rfl⟩⟩

set_option maxHeartbeats 1000000 in
theorem walk_bad (l : List UInt8) (hl : l.length ≤ 1048576) (w : World) (X : List Nat) (hG : GlOk w X) (hbad : ∀ n, Lib.atoiAll l ≠ .ok n) :
    Calls Tryz.prog 98 #[.string ⟨l.toArray⟩] w fun e w' => e = .returned (.tuple #[.int .i64 0, .bool false]) ∧ Fr w [] w' := by
  go_enter Tryz.func98, Tryz.ntmps98
  go_wp2_with (go_at_call 126; refine (call_atoi l hl w X hG).mono ?_)
  rintro e w1 ⟨v, ev, rfl, hF, _, h2⟩
  obtain ⟨t, a, rfl⟩ := h2 hbad
  go_wp2
  go_ret2
  exact ⟨rfl, hF⟩

theorem trim_lib (l : List UInt8) : Lib.trimPrefix l [45] = trimN l := by
  cases l with
  | nil => rfl
  | cons c r =>
    by_cases h : c = 45
    · subst h; simp [Lib.trimPrefix, Lib.hasPrefix, trimN]
    · have h' : ¬ (45 : UInt8) = c := fun e => h e.symm
      simp [Lib.trimPrefix, Lib.hasPrefix, trimN, h, h']
theorem call_trim (l : List UInt8) (w : World) :
    Calls Tryz.prog 127 #[.string ⟨l.toArray⟩, .string ⟨#[45]⟩] w fun e w' => ∃ t, t = trimN l ∧ e = .returned (.string ⟨t.toArray⟩) ∧ w' = w :=
  (lay_strings_TrimPrefix ⟨l.toArray⟩ ⟨#[45]⟩ w).mono fun e w' h => ⟨trimN l, rfl, by rw [h.1]; exact congrArg (fun x : List UInt8 => Ending.returned (.string ⟨x.toArray⟩)) (trim_lib l), h.2⟩
theorem call_itoa (n : Int) (h0 : -9223372036854775808 ≤ n) (h1 : n ≤ 9223372036854775807) (w : World) (X : List Nat) (hG : GlOk w X) :
    Calls Tryz.prog 106 #[.int .i64 n] w fun e w' => ∃ t, t = Lib.itoa n ∧ e = .returned (.string ⟨t.toArray⟩) ∧ Fr w [] w' := by
  refine (lay_strconv_Itoa n h0 h1 w (tab_is hG)).mono ?_
  rintro e w' ⟨rfl, k, os, rfl⟩
  exact ⟨_, rfl, rfl, rfl, rfl, rfl, by show w.heap.size ≤ (w.heap ++ os).size; simp, fun j hj _ => by show (w.heap ++ os)[j]? = w.heap[j]?; rw [Array.getElem?_append_left hj]⟩
set_option maxHeartbeats 1000000 in
theorem walk_good (l : List UInt8) (hl : l.length ≤ 1048576) (w : World) (X : List Nat) (hG : GlOk w X) (n : Int) (hok : Lib.atoiAll l = .ok n) (r : Int) (g : Bool) (hr : (r, g) = if 18 < (trimN l).length ∨ Lib.itoa n ≠ l then (0, false) else (n, true)) :
    Calls Tryz.prog 98 #[.string ⟨l.toArray⟩] w fun e w' => e = .returned (.tuple #[.int .i64 r, .bool g]) ∧ Fr w [] w' := by
  go_enter Tryz.func98, Tryz.ntmps98
  go_wp2_with (go_at_call 126; refine (call_atoi l hl w X hG).mono ?_)
  rintro e w1 ⟨v, ev, rfl, hF, h1, _⟩
  obtain ⟨rfl, rfl⟩ := h1 n hok
  go_wp2_with (go_at_call 127; refine (call_trim l w1).mono ?_)
  rintro e w2 ⟨t, ht, rfl, rfl⟩
  have hG2 : GlOk w2 [] := (hG.now (ms := []) (Fr.refl w X) (by simp)).now hF (by simp)
  go_wp2_with (go_at_call 106; refine (call_itoa v (Lib.atoiAll_bounds hok).1 (Lib.atoiAll_bounds hok).2 w2 [] hG2).mono ?_)
  · rintro e w3 ⟨s, hs, rfl, hF3⟩
    rename_i h18
    have hF4 : Fr w [] w3 := hF.trans hF3 (by simp) (by simp)
    go_wp2
    · go_ret2
      rename_i hb
      have hc : 18 < (trimN l).length ∨ Lib.itoa v ≠ l := by
        rcases hb with q | q
        · left; omega
        · right; intro e; rw [e] at q; simp at q
      rw [if_pos hc] at hr
      cases hr
      exact ⟨rfl, hF4⟩
    · go_ret2
      rename_i hb
      have hc : ¬ (18 < (trimN l).length ∨ Lib.itoa v ≠ l) := by
        rintro (q | q)
        · omega
        · exact q (by simpa using hb.2)
      rw [if_neg hc] at hr
      cases hr
      exact ⟨rfl, hF4⟩
  · go_ret2
    rename_i h18
    rw [if_pos (.inl (by omega))] at hr
    cases hr
    exact ⟨rfl, hF⟩
theorem meets_readInteger : Meets Tryz.prog 98 c_readInteger := by
  intro w ps vs fs fl ms hA hnd hdj hpre hgl
  cases hA with
  | rd h1 hA =>
  cases hA
  obtain ⟨h1, rfl⟩ := h1
  cases h1 with | str hl h1 =>
  cases h1
  rename_i l
  simp only [c_readInteger, nth, List.getD_cons_zero, PV.S] at hpre
  have hfin : ∀ (r : Int) (g : Bool), (r, g) = numV l → (Calls Tryz.prog 98 #[.string ⟨l.toArray⟩] w fun e w' => e = .returned (.tuple #[.int .i64 r, .bool g]) ∧ Fr w [] w') → inR .i64 r →
      Calls Tryz.prog 98 #[.string ⟨l.toArray⟩] w fun e w' => ∃ rvs, e = .returned (packR rvs) ∧ Done w c_readInteger [.str l] [.string ⟨l.toArray⟩] [] [] rvs w' := by
    intro r g hv hc hr
    refine hc.mono ?_
    rintro e w' ⟨rfl, hF⟩
    refine ⟨[.int .i64 r, .bool g], rfl, hF, .inl ⟨rfl, [], [], ?_, .rd .nil, by simp, fun x hx => by simp at hx⟩⟩
    have e1 : numV l = (r, g) := hv.symm
    show RetVs w' [.int .i64, .bool] [.int .i64 (numV l).1, .bool (numV l).2] _ _
    rw [e1]
    exact .cons (t := .int .i64) ⟨[[]], .int hr .nil, rfl⟩ (.cons (t := .bool) ⟨[[]], .bool .nil, rfl⟩ .nil)
  have hint := int_num l
  unfold intN at hint
  cases hok : Lib.atoiAll l with
  | ok n =>
    rw [hok] at hint
    dsimp only at hint
    have hb := Lib.atoiAll_bounds hok
    refine hfin (if 18 < (trimN l).length ∨ Lib.itoa n ≠ l then 0 else n) (decide (¬ (18 < (trimN l).length ∨ Lib.itoa n ≠ l))) ?_ (walk_good l hpre w _ hgl n hok _ _ ?_) ?_
    · unfold numV; rw [← hint]; split <;> rename_i q <;> simp [q]
    · split <;> rename_i q <;> simp [q]
    · split
      · decide
      · exact hb
  | range =>
    rw [hok] at hint
    refine hfin 0 false (by unfold numV; rw [← hint]) (walk_bad l hpre w _ hgl (by rw [hok]; intro n q; cases q)) (by decide)
  | _ =>
    rw [hok] at hint
    refine hfin 0 false (by unfold numV; rw [← hint]) (walk_bad l hpre w _ hgl (by rw [hok]; intro n q; cases q)) (by decide)
theorem k_readInteger : FnOk Tryz.prog 98 c_readInteger := ⟨meets_readInteger, _, Tryz.func98, rfl, by decide⟩

theorem b45 (x : UInt8) (k : Nat) (hk : k < 256) : ((x.toNat : Int) = k) ↔ x = UInt8.ofNat k := by
  constructor
  · intro h
    apply UInt8.toNat_inj.1
    rw [UInt8.toNat_ofNat', Nat.mod_eq_of_lt hk]; omega
  · intro h; rw [h, UInt8.toNat_ofNat', Nat.mod_eq_of_lt hk]
theorem num_none {t : List UInt8} (h : numN t = none) : (0 = (numV t).1 ∧ (numV t).2 = false) := by rw [numV_a h]; exact ⟨rfl, rfl⟩
theorem dgV_bad {u : List UInt8} {m i : Nat} (hi : i < u.length) (h : ¬ (48 ≤ (u.getD i 0).toNat ∧ (u.getD i 0).toNat ≤ 57)) : dgV m (u.drop i) = none := by
  rw [List.drop_eq_getElem_cons hi, dgV, if_neg]
  rw [List.getD_eq_getElem?_getD, List.getElem?_eq_getElem hi] at h
  exact h
theorem dgV_ok {u : List UInt8} {m i : Nat} (hi : i < u.length) (h : 48 ≤ (u.getD i 0).toNat ∧ (u.getD i 0).toNat ≤ 57) : dgV m (u.drop i) = dgV (m * 10 + ((u.getD i 0).toNat - 48)) (u.drop (i + 1)) := by
  have e : u.getD i 0 = u[i] := by rw [List.getD_eq_getElem?_getD, List.getElem?_eq_getElem hi]; rfl
  rw [e] at h ⊢
  rw [List.drop_eq_getElem_cons hi, dgV, if_pos h]
def c_l00Number : FSpec := c_readInteger
theorem k_l00Number : FnOk Tryz.prog 95 c_l00Number := by
  refine fn_mk [0, 2, 3, 4, 5, 6] [.tmp 2, .tmp 3] (env_nil (tyTab_ok [])) mixed Tryz.func95 rfl (by decide) rfl (by decide) rfl ?_
  intro ps hT hpre W hW
  simp only [c_l00Number, TyA, Ty, Tys] at hT hpre
  simp only [c_readInteger, TyA, Ty, Tys] at hT hpre
  obtain ⟨_, _, rfl, ⟨t, rfl, ht⟩, rfl⟩ := hT
  simp only [nth_zero, pv_S] at hpre
  refine hW.vc [] _ _ ?_
  simp [-List.getD_eq_getElem?_getD, c_l00Number, c_readInteger, c_readInteger]
  refine fun _ => ⟨fun h0 h45 => ?_, fun hns => ?_⟩
  · have e : List.take (t.length - 1) t.tail = t.drop 1 := by rw [List.take_of_length_le (by simp), List.drop_one]
    have hl : t.length - 1 = (t.drop 1).length := by simp
    have hN : numN t = (magN true (t.drop 1)).map fun m : Nat => -(m : Int) := by
      rw [numN, if_pos ⟨h0, (b45 _ 45 (by decide)).1 h45⟩]
    rw [e, hl]
    generalize t.drop 1 = u at *
    refine ⟨by omega, fun _ _ => ⟨fun a b => ⟨⟨a, b⟩, by omega⟩, fun _ => ⟨fun a b c => ⟨⟨⟨a, b⟩, c⟩, fun d => ⟨⟨⟨a, b⟩, c⟩, d⟩⟩, fun a b => ⟨⟨a, b⟩, fun c => ⟨⟨a, b⟩, c⟩⟩, fun h => ?_, fun a b c => ?_⟩⟩⟩
    · refine num_none ?_
      have hm : magN true u = none := by
        rw [magN, if_pos]
        rcases h with (h | h) | h
        · exact .inl h
        · exact .inr (.inl (by omega))
        · exact .inr (.inr ⟨(b45 _ 48 (by decide)).1 h, .inr rfl⟩)
      rw [hN, hm]; rfl
    · have hm : magN true u = dgV 0 u := by
        rw [magN, if_neg]
        rintro (q | q | q)
        · exact a q
        · omega
        · exact c ((b45 _ 48 (by decide)).2 q.1)
      rw [hm] at hN
      refine hW.loopS _ _ _ [.sl 5 .dp (.int .i64), .sl 6 .dp (.int .i64)] (fun ys => ∃ i m : Nat, ys = [.int .i64 m, .int .i64 i] ∧ i ≤ u.length ∧ dgV 0 u = dgV m (u.drop i) ∧ m < 10 ^ i) (fun ys => u.length - (nth ys 1).I.toNat) ?_ ?_
      · simp [-List.getD_eq_getElem?_getD, c_l00Number, c_readInteger]
        exact ⟨0, 0, ⟨rfl, rfl⟩, by omega, rfl, by decide⟩
      · rintro ys ⟨i, m, rfl, g1, g2, g3⟩
        refine hW.vc [] _ _ ?_
        simp [-List.getD_eq_getElem?_getD, c_l00Number, c_readInteger, c_readInteger]
        have hpi : 10 ^ i ≤ 10 ^ 18 := Nat.pow_le_pow_right (by decide) (by omega)
        have hp18 : (10 : Nat) ^ 18 = 1000000000000000000 := by decide
        rw [wrap64 (n := (i : Int) + 1) (by omega)]
        refine fun _ => ⟨fun h3 => ⟨h3, fun h => ⟨h, h3⟩, fun h => ?_, fun h4 h5 => ?_⟩, fun h3 => ?_⟩
        · refine num_none ?_
          rw [hN, g2, dgV_bad h3 (by omega)]; rfl
        · have hp17 : 10 ^ i ≤ 10 ^ 17 := Nat.pow_le_pow_right (by decide) (by omega)
          have hp17' : (10 : Nat) ^ 17 = 100000000000000000 := by decide
          rw [dgV_ok h3 (by omega)] at g2
          generalize (u.getD i 0).toNat = d at *
          rw [wrap64 (n := (m : Int) * 10) (by omega), wrap64 (n := (d : Int)) (by omega), wrap64 (n := (m : Int) * 10 + d) (by omega), wrap64 (n := (m : Int) * 10 + d - 48) (by omega)]
          refine ⟨h3, ⟨i + 1, m * 10 + (d - 48), ⟨by omega, by omega⟩, by omega, g2, ?_⟩, by omega⟩
          rw [Nat.pow_succ]; omega
        · rw [List.drop_eq_nil_of_le h3] at g2
          rw [g2] at hN
          have hV := numV_b (t := t) (n := -(m : Int)) (by rw [hN]; rfl)
          rw [hV]
          exact ⟨by rw [wrap64 (by omega)], rfl⟩
  · have hN : numN t = (magN false t).map fun m : Nat => (m : Int) := by
      rw [numN, if_neg]
      rintro ⟨q1, q2⟩
      exact hns q1 ((b45 _ 45 (by decide)).2 q2)
    have h00 : ¬ t = [] ↔ ¬ t.length = 0 := by rw [List.length_eq_zero_iff]
    rw [← List.length_eq_zero_iff]
    obtain ⟨u, hu⟩ : ∃ u, u = t := ⟨t, rfl⟩
    refine fun _ _ => ⟨fun a b => ⟨⟨a, b⟩, by omega⟩, fun _ => ⟨fun a b c => ⟨⟨⟨a, b⟩, c⟩, fun d => ⟨⟨⟨a, b⟩, c⟩, d⟩⟩, fun a b => ⟨⟨a, b⟩, fun c => ⟨⟨a, b⟩, c⟩⟩, fun h => ?_, fun a b c => ?_⟩⟩
    · refine num_none ?_
      have hm : magN false t = none := by
        rw [magN, if_pos]
        rcases h with (h | h) | h
        · exact .inl h
        · exact .inr (.inl (by omega))
        · exact .inr (.inr ⟨(b45 _ 48 (by decide)).1 h.1, .inl (by omega)⟩)
      rw [hN, hm]; rfl
    · have hm : magN false t = dgV 0 u := by
        rw [magN, if_neg, hu]
        rintro (q | q | q)
        · exact a q
        · omega
        · have := c ((b45 _ 48 (by decide)).2 q.1)
          rcases q.2 with q | q
          · omega
          · cases q
      rw [hm] at hN
      rw [← hu] at a b
      have ht : SV.str t = SV.str u := by rw [hu]
      rw [ht]
      refine hW.loopS _ _ _ [.sl 5 .dp (.int .i64), .sl 6 .dp (.int .i64)] (fun ys => ∃ i m : Nat, ys = [.int .i64 m, .int .i64 i] ∧ i ≤ u.length ∧ dgV 0 u = dgV m (u.drop i) ∧ m < 10 ^ i) (fun ys => u.length - (nth ys 1).I.toNat) ?_ ?_
      · simp [-List.getD_eq_getElem?_getD, c_l00Number, c_readInteger]
        exact ⟨0, 0, ⟨rfl, rfl⟩, by omega, rfl, by decide⟩
      · rintro ys ⟨i, m, rfl, g1, g2, g3⟩
        refine hW.vc [] _ _ ?_
        simp [-List.getD_eq_getElem?_getD, c_l00Number, c_readInteger, c_readInteger]
        have hpi : 10 ^ i ≤ 10 ^ 18 := Nat.pow_le_pow_right (by decide) (by omega)
        have hp18 : (10 : Nat) ^ 18 = 1000000000000000000 := by decide
        rw [wrap64 (n := (i : Int) + 1) (by omega)]
        refine fun _ => ⟨fun h3 => ⟨h3, fun h => ⟨h, h3⟩, fun h => ?_, fun h4 h5 => ?_⟩, fun h3 => ?_⟩
        · refine num_none ?_
          rw [hN, g2, dgV_bad h3 (by omega)]; rfl
        · have hp17 : 10 ^ i ≤ 10 ^ 17 := Nat.pow_le_pow_right (by decide) (by omega)
          have hp17' : (10 : Nat) ^ 17 = 100000000000000000 := by decide
          rw [dgV_ok h3 (by omega)] at g2
          generalize (u.getD i 0).toNat = d at *
          rw [wrap64 (n := (m : Int) * 10) (by omega), wrap64 (n := (d : Int)) (by omega), wrap64 (n := (m : Int) * 10 + d) (by omega), wrap64 (n := (m : Int) * 10 + d - 48) (by omega)]
          refine ⟨h3, ⟨i + 1, m * 10 + (d - 48), ⟨by omega, by omega⟩, by omega, g2, ?_⟩, by omega⟩
          rw [Nat.pow_succ]; omega
        · rw [List.drop_eq_nil_of_le h3] at g2
          rw [g2] at hN
          have hV := numV_b (t := t) (n := (m : Int)) (by rw [hN]; rfl)
          rw [hV]
          exact ⟨by first | rfl | (rw [wrap64 (by omega)]), rfl⟩

end Go.Proofs.YtolgjekokdimoaaGreatDoor
end

section
namespace Go.Proofs.YtolgjekokdimoaaGreatDoor
variable [LaidG]
variable [LaidN 0] [LaidN 1]
variable [LaidN 5]
variable [LaidN 2]
variable [LaidN 3] [LaidN 4]
set_option maxRecDepth 100000
set_option linter.unusedSimpArgs false

def c_l00Cut : FSpec := ⟨[(.rd, .str), (.rd, .int .u8)], [.list .str], true, fun ps => (nth ps 0).S.length ≤ 1048576, fun ps => [.list (cutP (UInt8.ofNat (nth ps 1).I.toNat) (nth ps 0).S)], fun _ => []⟩
theorem k_l00Cut : FnOk Tryz.prog 94 c_l00Cut := by
  refine fn_mk [0, 1, 4, 5, 6, 7] [.tmp 4] (env_nil (tyTab_ok [])) mixed Tryz.func94 rfl (by decide) rfl (by decide) rfl ?_
  intro ps hT hpre W hW
  simp only [c_l00Cut, TyA, Ty, Tys] at hT hpre
  obtain ⟨_, _, rfl, ⟨t, rfl, ht⟩, _, _, rfl, ⟨x, rfl, hx⟩, rfl⟩ := hT
  have hhx := hx
  clear hx
  simp only [nth_zero, nth_succ, pv_S] at hpre
  refine hW.vc [] _ _ ?_
  simp [-List.getD_eq_getElem?_getD, c_l00Cut]
  refine hW.loopS _ _ _ [.sl 5 .dp (.list .str), .sl 6 .dp (.int .i64), .sl 7 .dp (.int .i64)] (fun ys => ∃ (i f : Nat) (es : List (List UInt8)), ys = [.list (es.map PV.str), .int .i64 f, .int .i64 i] ∧ f ≤ i ∧ i ≤ t.length ∧ es.length ≤ i ∧ cutA (UInt8.ofNat x.toNat) [] t = es ++ cutA (UInt8.ofNat x.toNat) ((t.drop f).take (i - f)) (t.drop i)) (fun ys => t.length - (nth ys 2).I.toNat) ?_ ?_
  · simp [-List.getD_eq_getElem?_getD, c_l00Cut]
    exact ⟨0, 0, [], ⟨rfl, rfl, rfl⟩, by omega, by omega, by simp, by simp⟩
  · rintro ys ⟨i, f, es, rfl, g1, g2, g3, g4⟩
    refine hW.vc [] _ _ ?_
    simp [-List.getD_eq_getElem?_getD, c_l00Cut]
    refine fun _ => ⟨fun h3 => ⟨h3, fun hx => ⟨⟨g1, g2⟩, by omega, fun _ => ?_⟩, fun hx => ?_⟩, fun h3 => ⟨by omega, by omega, fun _ => ?_⟩⟩
    · have hb : t.getD i 0 = UInt8.ofNat x.toNat := by rw [← hx]; simp
      have hd : t.drop i = t.getD i 0 :: t.drop (i + 1) := by
        rw [List.drop_eq_getElem_cons h3]; simp [h3]
      rw [hd, cutA, if_pos hb] at g4
      rw [wrap64 (n := (i : Int) + 1) (by omega)]
      refine ⟨⟨i + 1, i + 1, es ++ [(t.drop f).take (i - f)], ⟨by simp, by omega, by omega⟩, by omega, by omega, by simp; omega, ?_⟩, by omega⟩
      rw [g4]; simp
    · have hb : ¬ t.getD i 0 = UInt8.ofNat x.toNat := by
        intro e
        apply hx
        rw [e, UInt8.toNat_ofNat', Nat.mod_eq_of_lt (by have := hhx.2; have h255 : IntKind.u8.max = 255 := by decide
                                                        have := hhx.1; have h0 : IntKind.u8.min = 0 := by decide
                                                        omega)]
        have := hhx.1; have h0 : IntKind.u8.min = 0 := by decide
        omega
      have hd : t.drop i = t.getD i 0 :: t.drop (i + 1) := by
        rw [List.drop_eq_getElem_cons h3]; simp [h3]
      rw [hd, cutA, if_neg hb] at g4
      rw [wrap64 (n := (i : Int) + 1) (by omega)]
      refine ⟨⟨i + 1, f, es, ⟨rfl, rfl, by omega⟩, by omega, by omega, by omega, ?_⟩, by omega⟩
      rw [g4, show i + 1 - f = (i - f) + 1 by omega, List.take_succ_eq_append_getElem (by rw [List.length_drop]; omega)]
      congr 3
      rw [List.getElem_drop, List.getD_eq_getElem?_getD, List.getElem?_eq_getElem (by omega)]
      simp [show f + (i - f) = i by omega]
    · rw [List.drop_eq_nil_of_le h3, cutA] at g4
      rw [cutP, g4, List.map_append, show i = t.length by omega]; rfl
def wordT (t : List UInt8) (i : Nat) : List UInt8 := (cutA 32 [] t).getD i []
def cliT (t : List UInt8) : Int := (numV (wordT t 1)).1
def cntT (t : List UInt8) : Int := (numV (wordT t 3)).1
/-- A text has a token's form. -/
def okT (t : List UInt8) : Bool := (cutA 32 [] t).length == 5 && (numV (wordT t 1)).2 && (numV (wordT t 3)).2 && toldB (cliT t) (wordT t 2) (cntT t) && wordT t 0 == [116, 111, 107, 101, 110]
def sameT (key t : List UInt8) : Bool := tokenL key (cliT t) (wordT t 2) (cntT t) == t
def readB (key t : List UInt8) : Bool := okT t && sameT key t
def rtC (key t : List UInt8) : Int := cond (readB key t) (cliT t) 0
def rtW (key t : List UInt8) : List UInt8 := cond (readB key t) (wordT t 2) []
def rtN (key t : List UInt8) : Int := cond (readB key t) (cntT t) 0
def rtK (key t : List UInt8) : Int := cond (okT t) (cond (sameT key t) 0 16) 3
theorem rt_a {key t : List UInt8} (h : okT t = false) : rtC key t = 0 ∧ rtW key t = [] ∧ rtN key t = 0 ∧ rtK key t = 3 := by simp [rtC, rtW, rtN, rtK, readB, h]
theorem rt_b {key t : List UInt8} (h : okT t = true) (h2 : sameT key t = false) : rtC key t = 0 ∧ rtW key t = [] ∧ rtN key t = 0 ∧ rtK key t = 16 := by simp [rtC, rtW, rtN, rtK, readB, h, h2]
theorem rt_c {key t : List UInt8} (h : okT t = true) (h2 : sameT key t = true) : rtC key t = cliT t ∧ rtW key t = wordT t 2 ∧ rtN key t = cntT t ∧ rtK key t = 0 := by simp [rtC, rtW, rtN, rtK, readB, h, h2]
theorem cutP_len (x : UInt8) (t : List UInt8) : (cutP x t).length = (cutA x [] t).length := by simp [cutP]
theorem cutP_at {t : List UInt8} {i : Nat} (h : i < (cutA 32 [] t).length) : (nth (cutP 32 t) i).S = wordT t i := by
  unfold cutP wordT nth
  simp only [List.getD_eq_getElem?_getD, List.getElem?_map]
  rw [List.getElem?_eq_getElem h]; rfl
theorem wordT_len (t : List UInt8) (i : Nat) : (wordT t i).length ≤ t.length := by
  unfold wordT
  by_cases h : i < (cutA 32 [] t).length
  · rw [List.getD_eq_getElem?_getD, List.getElem?_eq_getElem h]
    have := cutA_part t [] _ (List.getElem_mem h)
    simpa using this
  · rw [List.getD_eq_getElem?_getD, List.getElem?_eq_none (by omega)]; simp
theorem num_itoa {t : List UInt8} (h : (numV t).2 = true) : Lib.itoa (numV t).1 = t := by
  cases hn : numN t with
  | none => rw [numV_a hn] at h; cases h
  | some n =>
    rw [numV_b hn]
    have hi := int_num t
    rw [hn] at hi
    unfold intN at hi
    cases ha : Lib.atoiAll t with
    | ok m =>
      rw [ha] at hi
      dsimp only at hi
      split at hi
      · cases hi
      · rename_i q
        cases hi
        by_cases e : Lib.itoa n = t
        · exact e
        · exact absurd (.inr e) q
    | range => rw [ha] at hi; cases hi
    | _ => rw [ha] at hi; cases hi
theorem five {t : List UInt8} (h : (cutA 32 [] t).length = 5) : cutA 32 [] t = [wordT t 0, wordT t 1, wordT t 2, wordT t 3, wordT t 4] := by
  unfold wordT
  generalize cutA 32 [] t = l at *
  match l, h with
  | [a, b, c, d, e], _ => rfl
theorem okT_false {t : List UInt8} (h : ¬ (cutA 32 [] t).length = 5 ∨ (((numV (wordT t 1)).2 = false ∨ (numV (wordT t 3)).2 = false) ∨ toldB (numV (wordT t 1)).1 (wordT t 2) (numV (wordT t 3)).1 = false) ∨ ¬ wordT t 0 = [116, 111, 107, 101, 110]) : okT t = false := by
  unfold okT cliT cntT
  rcases h with h | ((h | h) | h) | h <;> simp [h]
theorem okT_true {t : List UInt8} (h : (cutA 32 [] t).length = 5) (a : (numV (wordT t 1)).2 = true) (b : (numV (wordT t 3)).2 = true) (c : toldB (numV (wordT t 1)).1 (wordT t 2) (numV (wordT t 3)).1 = true) (d : wordT t 0 = [116, 111, 107, 101, 110]) : okT t = true := by
  unfold okT cliT cntT
  simp [h, a, b, c, d]
theorem same_iff {key t : List UInt8} (h : (cutA 32 [] t).length = 5) (a : (numV (wordT t 1)).2 = true) (b : (numV (wordT t 3)).2 = true) (d : wordT t 0 = [116, 111, 107, 101, 110]) :
    wordT t 4 = markL key (headL (numV (wordT t 1)).1 (wordT t 2) (numV (wordT t 3)).1) ↔ tokenL key (numV (wordT t 1)).1 (wordT t 2) (numV (wordT t 3)).1 = t := by
  have hj := join_cut (x := 32) t []
  rw [five h, List.nil_append] at hj
  simp only [joinA] at hj
  have e1 := num_itoa a
  have e3 := num_itoa b
  have ht : t = headL (numV (wordT t 1)).1 (wordT t 2) (numV (wordT t 3)).1 ++ ([32] ++ wordT t 4) := by
    conv => lhs; rw [← hj]
    unfold headL decS
    rw [e1, e3, d]
    simp
  unfold tokenL
  generalize headL (numV (wordT t 1)).1 (wordT t 2) (numV (wordT t 3)).1 = hd at *
  constructor
  · intro e; rw [← e]; exact ht.symm
  · intro e
    have h1 : hd ++ ([32] ++ markL key hd) = hd ++ ([32] ++ wordT t 4) := by rw [e]; exact ht
    simpa using h1.symm
def c_readToken : FSpec := ⟨[(.rd, .str), (.rd, .str)], [.int .i64, .str, .int .i64, .int .i64], true, fun ps => (nth ps 0).S.length ≤ 1000000 ∧ (nth ps 1).S.length ≤ 1000000, fun ps => [.int .i64 (rtC (nth ps 0).S (nth ps 1).S), .str (rtW (nth ps 0).S (nth ps 1).S), .int .i64 (rtN (nth ps 0).S (nth ps 1).S), .int .i64 (rtK (nth ps 0).S (nth ps 1).S)], fun _ => []⟩
theorem k_readToken : FnOk Tryz.prog 54 c_readToken := by
  refine fn_mk [0, 1, 4, 5, 6, 7, 8, 9, 10, 11, 12] [.tmp 4, .tmp 5, .tmp 6, .tmp 7] (env_cons (cs := []) k_tokenOf (env_cons (cs := []) k_isTold (env_cons (cs := []) k_readInteger (env_cons (cs := []) k_Split (env_nil (tyTab_ok [])))))) mixed Tryz.func54 rfl (by decide) rfl (by decide) rfl ?_
  intro ps hT hpre W hW
  simp only [c_readToken, TyA, Ty, Tys] at hT hpre
  obtain ⟨_, _, rfl, ⟨key, rfl, hkey⟩, _, _, rfl, ⟨t, rfl, ht⟩, rfl⟩ := hT
  simp only [nth_zero, nth_succ, pv_S] at hpre
  refine hW.vc [(10, [], .take 0 <| .take 1 <| .take 2 <| .take 3 <| .take 4 <| .alt 5 (.alt 6 (.alt 7 (.alt 8 (.done) .stop) .stop) .stop) .stop)] _ _ ?_
  simp [-List.getD_eq_getElem?_getD, c_readToken, c_Split, c_readInteger, c_isTold, c_tokenOf]
  rw [cutP_len]
  have l1 := wordT_len t 1
  have l3 := wordT_len t 3
  by_cases h5 : (cutA 32 [] t).length = 5
  · rw [cutP_at (i := 0) (by omega), cutP_at (i := 1) (by omega), cutP_at (i := 2) (by omega), cutP_at (i := 3) (by omega), h5]
    refine ⟨by omega, fun _ => ⟨fun h => absurd rfl h, fun _ => ⟨by decide, by decide, fun _ => ⟨by omega, by decide, by decide, fun _ => ⟨by omega, fun a b => ⟨⟨a, b⟩, by decide⟩, fun a b => ⟨⟨a, b⟩, by decide⟩, fun _ => ⟨fun a b c => ⟨⟨⟨a, b⟩, c⟩, by decide⟩, fun _ => ⟨fun h => ?_, fun a b c d => ⟨by decide, by decide, fun _ => ⟨⟨hpre.1, toldB_P c⟩, fun e => ?_, fun e => ⟨by decide +kernel, by decide, by decide, fun _ => ?_⟩⟩⟩⟩⟩⟩⟩⟩⟩⟩
    · obtain ⟨e1, e2, e3, e4⟩ := rt_a (key := key) (okT_false (.inr h))
      exact ⟨e1.symm, e2, e3.symm, e4.symm⟩
    · obtain ⟨e1, e2, e3, e4⟩ := rt_b (key := key) (okT_true h5 a b c d) (by simp only [sameT, cliT, cntT]; simpa using e)
      exact ⟨e1.symm, e2, e3.symm, e4.symm⟩
    · obtain ⟨e1, e2, e3, e4⟩ := rt_c (key := key) (okT_true h5 a b c d) (by simp only [sameT, cliT, cntT]; simpa using e)
      exact ⟨e1.symm, e2.symm, e3.symm, e4.symm⟩
  · refine ⟨by omega, fun _ => ⟨fun _ => ?_, fun h => absurd (by omega) h5⟩⟩
    obtain ⟨e1, e2, e3, e4⟩ := rt_a (key := key) (okT_false (.inl h5))
    exact ⟨e1.symm, e2, e3.symm, e4.symm⟩
def c_l12Read : FSpec := c_readToken
theorem k_l12Read : FnOk Tryz.prog 53 c_l12Read := by
  refine fn_mk [0, 1, 4, 5, 6, 7, 8, 9, 10, 11, 12] [.tmp 4, .tmp 5, .tmp 6, .tmp 7] (env_cons (cs := []) k_l12Mark (env_cons (cs := []) k_l12Ask (env_cons (cs := []) k_l00Number (env_cons (cs := []) k_l00Cut (env_nil (tyTab_ok [])))))) mixed Tryz.func53 rfl (by decide) rfl (by decide) rfl ?_
  intro ps hT hpre W hW
  simp only [c_l12Read, TyA, Ty, Tys] at hT hpre
  simp only [c_readToken, TyA, Ty, Tys] at hT hpre
  obtain ⟨_, _, rfl, ⟨key, rfl, hkey⟩, _, _, rfl, ⟨t, rfl, ht⟩, rfl⟩ := hT
  simp only [nth_zero, nth_succ, pv_S] at hpre
  refine hW.vc [(8, [], .take 0 <| .take 1 <| .take 2 <| .take 3 <| .take 4 <| .take 5 <| .take 6 <| .take 7 <| .take 8 <| .alt 9 (.take 10 <| .done) .stop), (10, [], .take 0 <| .take 1 <| .take 2 <| .take 3 <| .take 4 <| .alt 5 (.alt 6 (.alt 7 (.alt 8 (.done) .stop) .stop) .stop) .stop)] _ _ ?_
  simp [-List.getD_eq_getElem?_getD, c_l12Read, c_l00Cut, c_l00Number, c_l12Ask, c_l12Mark, c_readToken, c_readInteger, c_isTold, c_readInteger, c_isTold]
  rw [cutP_len]
  have l1 := wordT_len t 1
  have l3 := wordT_len t 3
  by_cases h5 : (cutA 32 [] t).length = 5
  · rw [cutP_at (i := 0) (by omega), cutP_at (i := 1) (by omega), cutP_at (i := 2) (by omega), cutP_at (i := 3) (by omega), cutP_at (i := 4) (by omega), h5]
    refine ⟨by omega, fun _ => ⟨fun _ => ⟨rfl, by decide⟩, fun _ => ⟨fun h => ?_, fun _ d => ⟨by decide, by decide, fun _ => ⟨by omega, by decide, by decide, fun _ => ⟨by omega, fun a b => ⟨⟨a, b⟩, by decide⟩, fun a b => ⟨⟨a, b⟩, by decide⟩, fun _ => ⟨fun h => ?_, fun a b c => ⟨by decide +kernel, by decide, by decide, fun _ => ⟨by decide, by decide, fun _ => ⟨⟨hpre.1, toldB_P c⟩, fun e => ?_, fun e => ⟨by decide +kernel, by decide, by decide, fun _ => ?_⟩⟩⟩⟩⟩⟩⟩⟩⟩⟩⟩
    · obtain ⟨e1, e2, e3, e4⟩ := rt_a (key := key) (okT_false (by rcases h with h | h; exact absurd rfl h; exact .inr (.inr h)))
      exact ⟨e1.symm, e2, e3.symm, e4.symm⟩
    · obtain ⟨e1, e2, e3, e4⟩ := rt_a (key := key) (okT_false (.inr (.inl h)))
      exact ⟨e1.symm, e2, e3.symm, e4.symm⟩
    · obtain ⟨e1, e2, e3, e4⟩ := rt_b (key := key) (okT_true h5 a b c d) (by
        have := mt (same_iff h5 a b d).2 e
        simp only [sameT, cliT, cntT]; simpa using this)
      exact ⟨e1.symm, e2, e3.symm, e4.symm⟩
    · obtain ⟨e1, e2, e3, e4⟩ := rt_c (key := key) (okT_true h5 a b c d) (by
        have := (same_iff h5 a b d).1 e
        simp only [sameT, cliT, cntT]; simpa using this)
      exact ⟨e1.symm, e2.symm, e3.symm, e4.symm⟩
  · have hn : ¬ (((cutA 32 [] t).length : Nat) : Int) = 5 := by omega
    refine ⟨by omega, fun _ => ⟨fun h => absurd h hn, fun _ => ⟨fun _ => ?_, fun h => absurd h hn⟩⟩⟩
    obtain ⟨e1, e2, e3, e4⟩ := rt_a (key := key) (okT_false (.inl h5))
    exact ⟨e1.symm, e2, e3.symm, e4.symm⟩

/-- What reading a token answers. -/
def RTC (key t : List UInt8) : Int := cond (longB key t) 0 (rtC key t)
def RTW (key t : List UInt8) : List UInt8 := cond (longB key t) [] (rtW key t)
def RTN (key t : List UInt8) : Int := cond (longB key t) 0 (rtN key t)
def RTK (key t : List UInt8) : Int := cond (longB key t) 2 (rtK key t)
def c_ReadToken : FSpec := ⟨[(.rd, .str), (.rd, .str)], [.int .i64, .str, .int .i64, .int .i64], true, fun _ => True, fun ps => [.int .i64 (RTC (nth ps 0).S (nth ps 1).S), .str (RTW (nth ps 0).S (nth ps 1).S), .int .i64 (RTN (nth ps 0).S (nth ps 1).S), .int .i64 (RTK (nth ps 0).S (nth ps 1).S)], fun _ => []⟩
theorem k_ReadToken : FnOk Tryz.prog 19 c_ReadToken := by
  refine fn_mk [0, 1, 4, 5, 6, 7] [.tmp 4, .tmp 5, .tmp 6, .tmp 7] (env_cons (cs := []) k_readToken (env_cons (cs := []) k_isLong (env_nil (tyTab_ok [])))) mixed Tryz.func19 rfl (by decide) rfl (by decide) rfl ?_
  intro ps hT hpre W hW
  simp only [c_ReadToken, TyA, Ty, Tys] at hT hpre
  obtain ⟨_, _, rfl, ⟨key, rfl, hkey⟩, _, _, rfl, ⟨t, rfl, ht⟩, rfl⟩ := hT
  refine hW.vc [] _ _ ?_
  simp [-List.getD_eq_getElem?_getD, c_ReadToken, c_isLong, c_readToken]
  refine fun _ _ => ⟨by decide, fun h => ?_, fun h1 h2 => ?_⟩
  · have hb : longB key t = true := by rcases h with h | h <;> simp [longB, h]
    simp [RTC, RTW, RTN, RTK, hb]
  · have hb : longB key t = false := by simp [longB, h1, h2]
    have hk : key.length ≤ 65536 := by simp [longN] at h1; omega
    have ht : t.length ≤ 65536 := by simp [longN] at h2; omega
    exact ⟨⟨by omega, by omega⟩, by simp [RTC, RTW, RTN, RTK, hb]⟩
def c_sReadToken : FSpec := c_ReadToken
theorem k_sReadToken : FnOk Tryz.prog 18 c_sReadToken := by
  refine fn_mk [0, 1, 4, 5, 6, 7] [.tmp 4, .tmp 5, .tmp 6, .tmp 7] (env_cons (cs := []) k_l12Read (env_nil (tyTab_ok []))) mixed Tryz.func18 rfl (by decide) rfl (by decide) rfl ?_
  intro ps hT hpre W hW
  simp only [c_sReadToken, TyA, Ty, Tys] at hT hpre
  simp only [c_ReadToken, TyA, Ty, Tys] at hT
  obtain ⟨_, _, rfl, ⟨key, rfl, hkey⟩, _, _, rfl, ⟨t, rfl, ht⟩, rfl⟩ := hT
  refine hW.vc [] _ _ ?_
  simp [-List.getD_eq_getElem?_getD, c_sReadToken, c_l12Read, c_ReadToken, c_readToken, c_readToken]
  refine fun _ _ => ⟨fun h => ?_, fun h1 h2 => ⟨⟨by omega, by omega⟩, ?_⟩⟩
  · have hb : longB key t = true := by simp [longB, longN]; omega
    simp [RTC, RTW, RTN, RTK, hb]
  · have hb : longB key t = false := by simp [longB, longN]; omega
    simp [RTC, RTW, RTN, RTK, hb]
def c_exReadToken : FSpec := ⟨[(.rd, .str), (.rd, .str)], [.bool], true, fun _ => True, fun _ => [.bool true], fun _ => []⟩
theorem k_exReadToken : FnOk Tryz.prog 4 c_exReadToken := by
  refine fn_mk [0, 1, 4, 5, 6, 7, 8, 9, 10, 11, 12] [.tmp 4] (env_cons (cs := []) k_ReadToken (env_cons (cs := []) k_sReadToken (env_nil (tyTab_ok [])))) mixed Tryz.func4 rfl (by decide) rfl (by decide) rfl ?_
  intro ps hT hpre W hW
  simp only [c_exReadToken, TyA, Ty, Tys] at hT hpre
  obtain ⟨_, _, rfl, ⟨key, rfl, hkey⟩, _, _, rfl, ⟨t, rfl, ht⟩, rfl⟩ := hT
  refine hW.vc [] _ _ ?_
  simp [-List.getD_eq_getElem?_getD, c_exReadToken, c_sReadToken, c_ReadToken, c_ReadToken]

end Go.Proofs.YtolgjekokdimoaaGreatDoor
end

section
namespace Go.Proofs.YtolgjekokdimoaaGreatDoor
variable [LaidG]
set_option linter.unusedVariables false

def ptyOf (g : Bool) (l : List PTy) : PTy := if g then .agg l else l.headD .opq

mutual
/-- The types of data: their leaves. -/
inductive Dat (P : Program) : Nat → Bool → List PTy → Prop
  | int {t k} : P.underlying t = some (.int k) → t < P.types.size → Dat P t false [.int k]
  | bool {t} : P.underlying t = some .bool → t < P.types.size → Dat P t false [.bool]
  | str {t} : P.underlying t = some .string → t < P.types.size → Dat P t false [.str]
  | slice {t e g l} : P.underlying t = some (.slice e) → Dat P e g l → P.cellsOf e = l.length → 0 < l.length → 0 < P.bytesOf e → t < P.types.size → Dat P t false [.list (ptyOf g l)]
  | struct {t fs l} : P.underlying t = some (.struct fs) → Dats P (fs.toList.map (·.type)) l → P.cellsOf t = l.length → t < P.types.size → Dat P t true l
inductive Dats (P : Program) : List Nat → List PTy → Prop
  | nil : Dats P [] []
  | cons {t ts g l m} : Dat P t g l → P.cellsOf t = l.length → Dats P ts m → Dats P (t :: ts) (l ++ m)
end

section
variable {H : Type} {enc : TypeId × Value → H} {P : Program} {w : World} {base : Nat} {spare : Nat → Bool}

theorem Dat.lt {t : Nat} {g : Bool} {l : List PTy} (h : Dat P t g l) : t < P.types.size := by
  cases h <;> assumption

theorem dat_leaf {t : Nat} {l : List PTy} (h : Dat P t false l) : ∃ T, l = [T] ∧ ∀ ts, T ≠ .agg ts := by
  cases h <;> exact ⟨_, rfl, by simp⟩

theorem cells_get {base : Nat} {a : Addr} {n : Nat} {cs : List Value} (h : w.cells? base a n = some cs) : cs.length = n ∧ ∀ i, i < n → w.cell? (a.add i) = cs[i]? := by
  unfold World.cells? at h
  split at h
  · refine ⟨by simpa using mapM_some_length h, fun i hi => ?_⟩
    have := mapM_some_get h i i (by simp [hi])
    exact this
  · cases h

theorem lim_reach {n : Nat} (h : n ≤ reachBytes) : n ≤ LIM := by
  unfold reachBytes at h; unfold LIM; omega

/-- Elements, one after the other. -/
theorem elems_lv {g : Bool} {l : List PTy} {T : PTy} (hT : T = ptyOf g l) (hg : g = false → ∃ T, l = [T] ∧ ∀ ts, T ≠ .agg ts) : ∀ (css : List (List Value)), (∀ cs ∈ css, ∃ qs f, Lv w l qs cs f) →
    ∃ es f, es.length = css.length ∧ (∀ e ∈ es, Shp T e) ∧ Lv w (flatT T es.length) (flatP es) css.flatten f ∧ T.leaves = l
  | [], _ => ⟨[], [], rfl, by simp, by simpa [flatT, flatP] using Lv.nil, by
      subst hT
      cases g with
      | true => rfl
      | false => obtain ⟨T, rfl, h⟩ := hg rfl; cases T <;> first | rfl | exact absurd rfl (h _)⟩
  | cs :: css, h => by
    obtain ⟨es, f, e1, e2, e3, e4⟩ := elems_lv hT hg css fun x hx => h x (by simp [hx])
    obtain ⟨qs, f1, hq⟩ := h cs (by simp)
    have key : ∃ e, Shp T e ∧ e.leaves = qs := by
      subst hT
      cases g with
      | true => exact ⟨.agg qs, ⟨qs, rfl, hq.lens.1.symm⟩, rfl⟩
      | false =>
        obtain ⟨T, rfl, hn⟩ := hg rfl
        have hl := hq.lens.1
        match qs, hl with
        | [q], _ =>
          have hne := hq.leaves_of q (by simp)
          refine ⟨q, ?_, ?_⟩
          · show Shp T q
            cases T <;> first | exact hne | exact absurd rfl (hn _)
          · cases q <;> first | rfl | exact absurd rfl (hne _)
    obtain ⟨e, k1, k2⟩ := key
    refine ⟨e :: es, f1 ++ f, by simp [e1], ?_, ?_, e4⟩
    · intro x hx; rcases List.mem_cons.1 hx with rfl | hx
      · exact k1
      · exact e2 x hx
    · have q1 : flatT T (e :: es).length = T.leaves ++ flatT T es.length := by simp [flatT, List.replicate_succ]
      have q2 : flatP (e :: es) = e.leaves ++ flatP es := by simp [flatP]
      rw [q1, q2, e4, k2, List.flatten_cons]
      exact hq.append e3

theorem wf_inR {k : IntKind} {n : Int} (h : (Lit.int k n).wf = true) : inR k n := by
  unfold Lit.wf at h; unfold inR
  simpa only [Bool.and_eq_true, decide_eq_true_eq] using h

theorem row_take {c : Array Value} {ci : List Value} {o k : Nat} (h1 : ci.length = k) (h2 : ∀ j, j < k → c[o + j]? = ci[j]?) : (c.toList.drop o).take k = ci := by
  apply List.ext_getElem?
  intro j
  by_cases hj : j < k
  · rw [List.getElem?_take, if_pos hj, List.getElem?_drop, ← h2 j hj]; simp
  · rw [List.getElem?_take, if_neg hj, List.getElem?_eq_none (by omega)]

theorem rows_take {c : Array Value} {o k : Nat} : ∀ (css : List (List Value)) (i0 : Nat), (∀ i ci, css[i]? = some ci → ci.length = k ∧ ∀ j, j < k → c[o + (i0 + i) * k + j]? = ci[j]?) → (c.toList.drop (o + i0 * k)).take css.flatten.length = css.flatten
  | [], i0, _ => by simp
  | ci :: css, i0, h => by
    obtain ⟨h1, h2⟩ := h 0 ci (by simp)
    have ih := rows_take (c := c) (o := o) (k := k) css (i0 + 1) fun i cj hi => by
      have := h (i + 1) cj (by simpa using hi)
      rw [show i0 + (i + 1) = i0 + 1 + i by omega] at this
      exact this
    simp only [List.flatten_cons, List.length_append]
    rw [List.take_add, List.drop_drop, h1]
    congr 1
    · exact row_take h1 fun j hj => by simpa using h2 j hj
    · rw [show o + i0 * k + k = o + (i0 + 1) * k by rw [Nat.add_mul]; omega]
      exact ih

theorem weightsAll_mem {e : TypeId} : ∀ {ds : List (DataW H)} {d : DataW H}, d ∈ ds → ∀ y ∈ d.weights P e, y ∈ DataW.weightsAll P e ds
  | x :: ds, d, hd, y, hy => by
    simp only [DataW.weightsAll, List.mem_append]
    rcases List.mem_cons.1 hd with rfl | hd
    · exact .inl hy
    · exact .inr (weightsAll_mem hd y hy)

theorem dats_lv {n : Nat} {cs : List Value} (ih : ∀ t g l cs x, Dat P t g l → DataW.trod enc P w base spare true n t cs = some x → (∀ y ∈ x.1.weights P t, y ≤ reachBytes) → ∃ qs f, Lv w l qs cs f) : ∀ (fs : List Field) (l : List PTy) (xs : List (DataW H × List MemPlace)) (o : Nat), Dats P (fs.map Field.type) l →
  (∀ (j : Nat) (f : Field), fs[j]? = some f → f.offset = o + ((fs.take j).map fun (f : Field) => P.cellsOf f.type).sum) → (∀ (j : Nat) (f : Field), fs[j]? = some f → DataW.trod enc P w base spare true n f.type ((cs.drop f.offset).take (P.cellsOf f.type)) = xs[j]?) → xs.length = fs.length →
    (∀ y ∈ DataW.weightsEach P (fs.map Field.type) (xs.map (·.1)), y ≤ reachBytes) → ∃ qs f, Lv w l qs ((cs.drop o).take l.length) f
  | [], l, xs, o, hd, hof, hx, hlen, hw => by cases hd; exact ⟨[], [], by simpa using Lv.nil⟩
  | f :: fs, l, xs, o, hd, hof, hx, hlen, hw => by
    cases xs with
    | nil => simp at hlen
    | cons x xs =>
      simp only [List.map_cons] at hd hw
      cases hd with
      | @cons t ts g l1 m h1 h2 h3 =>
        have e0 := hof 0 f (by simp)
        simp only [List.take_zero, List.map_nil, List.sum_nil, Nat.add_zero] at e0
        have x0 := hx 0 f (by simp)
        simp only [List.getElem?_cons_zero, e0, h2] at x0
        simp only [DataW.weightsEach, List.mem_append] at hw
        obtain ⟨q1, f1, hq1⟩ := ih _ _ _ _ _ h1 x0 (fun y hy => hw y (.inl hy))
        obtain ⟨q2, f2, hq2⟩ := dats_lv ih fs m xs (o + l1.length) h3 (fun j f' hj => by
          have := hof (j + 1) f' (by simpa using hj)
          simp only [List.take_succ_cons, List.map_cons, List.sum_cons, h2] at this
          omega) (fun j f' hj => by simpa using hx (j + 1) f' (by simpa using hj)) (by simpa using hlen) (fun y hy => hw y (.inr hy))
        refine ⟨q1 ++ q2, f1 ++ f2, ?_⟩
        rw [List.length_append, List.take_add, List.drop_drop]
        exact hq1.append hq2

/-- What is read as data lies in memory as such. -/
theorem trod_lv (K : Kids P (· < P.types.size)) (hdt : ∀ t g l, Dat P t g l → t < P.types.size) : ∀ (n : Nat) (t : Nat) (g : Bool) (l : List PTy) (cs : List Value) (x : DataW H × List MemPlace), Dat P t g l → DataW.trod enc P w base spare true n t cs = some x → (∀ y ∈ x.1.weights P t, y ≤ reachBytes) → ∃ qs f, Lv w l qs cs f := by
  intro n
  induction n with
  | zero => intro t g l cs x _ h; simp [DataW.trod] at h
  | succ n ih =>
    intro t g l cs x hd h hw
    have hd0 := hd
    cases hd with
    | int ht _ =>
      obtain ⟨m, rfl, rfl, hwf⟩ := DataW.trod_int ht h
      exact ⟨[.int _ m], [], .int (wf_inR hwf) .nil⟩
    | bool ht _ =>
      obtain ⟨b, rfl, rfl⟩ := DataW.trod_bool ht h
      exact ⟨[.bool b], [], .bool .nil⟩
    | str ht _ =>
      obtain ⟨b, rfl, rfl, hl⟩ := DataW.trod_string ht h
      have := hw b.data.toList.length (by simp [DataW.weights])
      refine ⟨[.str b.data.toList], [], ?_⟩
      have hL := Lv.str (w := w) (lim_reach this) (Lv.nil (w := w))
      simpa using hL
    | @slice _ e g' l' ht he hc hpos hby _ =>
      rcases DataW.trod_slice ht h with ⟨rfl, rfl⟩ | ⟨a, len, cap, elems, rest, m, hm, rfl, rfl, hb, hle, hcap, hel, hget, _⟩
      · exact ⟨[.list []], [], .empty .nil⟩
      · have hmn : m = n := by omega
        subst hmn
        simp only [DataW.weights, ht, List.length_map, List.mem_cons, List.mem_append] at hw
        have hlim : len ≤ LIM := by
          have h1 := lim_reach (hw _ (.inl rfl))
          have h2 : elems.length * 1 ≤ (elems.length + rest.length) * P.bytesOf e := Nat.mul_le_mul (by omega) hby
          omega
        cases len with
        | zero => exact ⟨[.list []], [], .empty .nil⟩
        | succ len =>
          have hcell : ∀ i, i < len + 1 → ∃ ci y, w.cells? base (a.add (i * l'.length)) l'.length = some ci ∧ elems[i]? = some y ∧ ∃ qs f, Lv w l' qs ci f := by
            intro i hi
            have h1 := hget i hi
            have hy : elems[i]? = some elems[i] := by simp [hel, hi]
            rw [hy, hc] at h1
            cases hci : w.cells? base (a.add (i * l'.length)) l'.length with
            | none => rw [hci] at h1; cases h1
            | some ci =>
              rw [hci] at h1
              exact ⟨ci, _, rfl, hy, ih e g' l' ci _ he h1 fun y hy => hw y (.inr (.inl (weightsAll_mem (List.mem_map.2 ⟨_, List.getElem_mem (by omega), rfl⟩) y hy)))⟩
          let ci : Nat → List Value := fun i => (w.cells? base (a.add (i * l'.length)) l'.length).getD []
          have hci : ∀ i, i < len + 1 → w.cells? base (a.add (i * l'.length)) l'.length = some (ci i) ∧ ∃ qs f, Lv w l' qs (ci i) f := by
            intro i hi
            obtain ⟨c, y, h1, _, h2⟩ := hcell i hi
            have : ci i = c := by simp [ci, h1]
            rw [this]; exact ⟨h1, h2⟩
          have hT : ∃ T, T = ptyOf g' l' := ⟨_, rfl⟩
          obtain ⟨T, hT⟩ := hT
          obtain ⟨es, f, e1, e2, e3, e4⟩ := elems_lv (w := w) hT (fun hg => by subst hg; exact dat_leaf he) ((List.range (len + 1)).map ci) fun cs hcs => by
            obtain ⟨i, hi, rfl⟩ := List.mem_map.1 hcs
            exact (hci i (by simpa using hi)).2
          simp only [List.length_map, List.length_range] at e1
          obtain ⟨b, o, sp⟩ := a
          have h00 := (cells_get (hci 0 (by omega)).1)
          have h01 := h00.2 0 hpos
          have hne : ∃ u, (ci 0)[0]? = some u := ⟨(ci 0)[0]'(by omega), by simp [h00.1, hpos]⟩
          obtain ⟨u, hu⟩ := hne
          rw [hu] at h01
          have ha0 : (Addr.add ⟨b, o, sp⟩ (0 * l'.length)).add 0 = ⟨b, o, sp⟩ := by simp [Addr.add]
          rw [ha0] at h01
          simp only [World.cell?] at h01
          have hblk : ∃ c t' fr, w.heap[b]? = some (.cells c t' fr) ∧ sp = none := by
            split at h01
            · rename_i c t' fr hc'
              refine ⟨c, t', fr, hc', ?_⟩
              cases sp with
              | none => rfl
              | some _ => simp at h01
            · cases h01
          obtain ⟨c, t', fr, hblk, rfl⟩ := hblk
          refine ⟨[.list es], b :: f ++ [], ?_⟩
          subst hT
          have := Lv.list (cap := cap) (o := o) hblk e2 ⟨by omega, by omega⟩ e3 ?_ Lv.nil
          · rw [e1] at this
            exact this
          · have := rows_take (c := c) (o := o) (k := l'.length) ((List.range (len + 1)).map ci) 0 fun i cj hi => by
              simp only [List.getElem?_map, List.getElem?_range, Option.map_eq_some_iff] at hi
              obtain ⟨j, hj, rfl⟩ := hi
              have hij : i < len + 1 ∧ i = j := by
                by_cases hlt : i < len + 1
                · rw [List.getElem?_range hlt] at hj; cases hj; exact ⟨hlt, rfl⟩
                · rw [List.getElem?_eq_none (by simp; omega)] at hj; cases hj
              obtain ⟨hlt, rfl⟩ := hij
              obtain ⟨k1, k2⟩ := cells_get (hci i hlt).1
              refine ⟨k1, fun j hj => ?_⟩
              have := k2 j hj
              rw [addr_add, addr_add] at this
              simp only [World.cell?, hblk] at this
              rw [← this]
              simp [Nat.add_assoc]
            simpa using this
    | @struct _ fs l ht hds hc _ =>
      obtain ⟨xs, m, hm, rfl, hlen, hxl, hget⟩ := DataW.trod_struct ht h
      have hmn : m = n := by omega
      subst hmn
      obtain ⟨_, _, hoff⟩ := K.struct (hdt _ _ _ hd0) ht
      simp only [DataW.weights, ht] at hw
      obtain ⟨qs, f, hq⟩ := dats_lv (cs := cs) ih fs.toList l xs 0 hds (fun j f hj => by simpa using hoff j f hj) (fun j f hj => hget j f (by simpa using hj)) (by simpa using hxl) hw
      refine ⟨qs, f, ?_⟩
      rw [List.drop_zero, List.take_of_length_le (by omega)] at hq
      exact hq

end
end Go.Proofs.YtolgjekokdimoaaGreatDoor
end

section
namespace Go.Proofs.YtolgjekokdimoaaGreatDoor
variable [LaidG]
open Go.ChangeShapes Go.WideShapes Go.ChangeAt Go.RowKit
set_option linter.unusedVariables false

/-- The parameters of a law. -/
inductive ArgTys (P : Program) : List Nat → List (Md × PTy) → Prop
  | nil : ArgTys P [] []
  | cons {t ts g l ats} : Dat P t g l → ArgTys P ts ats → ArgTys P (t :: ts) ((.rd, ptyOf g l) :: ats)

section
variable {H : Type} {enc : TypeId × Value → H} {P : Program} {W W' : World}

theorem okWide_agg {base : Nat} {t : Nat} {l : List PTy} {v : Value} (hd : Dat P t true l) (h : Value.okWide P W .any base t v) : ∃ cs, v = .agg cs := by
  cases hd with
  | struct ht _ _ _ =>
    unfold Value.okWide at h
    rw [ht] at h
    obtain ⟨cs, h, _⟩ := h
    exact ⟨cs, h⟩

theorem okWide_leaf {base : Nat} {t : Nat} {l : List PTy} {v : Value} (hd : Dat P t false l) (h : Value.okWide P W .any base t v) : v.cells.toList = [v] := by
  cases hd with
  | int ht _ => unfold Value.okWide Cell.okWide Cell.ok at h; rw [ht] at h; cases v <;> first | rfl | (simp at h)
  | bool ht _ => unfold Value.okWide Cell.okWide Cell.ok at h; rw [ht] at h; cases v <;> first | rfl | (simp at h)
  | str ht _ => unfold Value.okWide Cell.okWide Cell.ok at h; rw [ht] at h; cases v <;> first | rfl | (simp at h)
  | slice ht _ _ _ _ _ => unfold Value.okWide Cell.okWide Cell.ok at h; rw [ht] at h; cases v <;> first | rfl | (simp at h)

theorem arg_lv (K : Kids P (· < P.types.size)) (hdt : ∀ t g l, Dat P t g l → t < P.types.size) {base : Nat} {t : Nat} {g : Bool} {l : List PTy} {v : Value} {d : DataW H} {p : List MemPlace} (hd : Dat P t g l) (hk : Value.okWide P W .any base t v)
    (h : DataW.Trod enc P W 0 (fun _ => true) true t v d p) (hw : ∀ y ∈ d.weights P t, y ≤ reachBytes) : ∃ q f, ArgV W (ptyOf g l) q v f f := by
  obtain ⟨n, h⟩ := h
  obtain ⟨qs, f, hL⟩ := trod_lv K hdt n t g l _ (d, p) hd h hw
  cases g with
  | true =>
    obtain ⟨cs, rfl⟩ := okWide_agg hd hk
    exact ⟨.agg qs, f, qs, cs.toList, rfl, by simp, hL, rfl⟩
  | false =>
    rw [okWide_leaf hd hk] at hL
    obtain ⟨T, rfl, hn⟩ := dat_leaf hd
    have hl := hL.lens.1
    match qs, hl with
    | [q], _ =>
      refine ⟨q, f, ?_⟩
      show ArgV W T q v f f
      cases T with
      | agg ts => exact absurd rfl (hn ts)
      | box ts => cases hL
      | abx t => cases hL
      | fn g ts => cases hL
      | opq => cases hL
      | int k => exact ⟨hL, rfl⟩
      | bool => exact ⟨hL, rfl⟩
      | str => exact ⟨hL, rfl⟩
      | list t => exact ⟨hL, rfl⟩

theorem args_lv (K : Kids P (· < P.types.size)) (hdt : ∀ t g l, Dat P t g l → t < P.types.size) {base : Nat} : ∀ {ts : List Nat} {ats : List (Md × PTy)} {vs : List Value} {ds : List (DataW H)} {ps : List MemPlace}, ArgTys P ts ats →
    (∀ (j : Nat) t v, ts[j]? = some t → vs[j]? = some v → Value.okWide P W .any base t v) → DataW.TrodAll enc P W 0 (fun _ => true) true ts vs ds ps → (∀ y ∈ DataW.weightsEach P ts ds, y ≤ reachBytes) →
    ∃ qs fs, ArgsV W ats qs vs fs fs []
  | [], ats, vs, ds, ps, ha, hk, h, hw => by
    cases ha
    cases vs <;> cases ds <;> simp [DataW.TrodAll] at h
    exact ⟨[], [], .nil⟩
  | t :: ts, ats, [], ds, ps, ha, hk, h, hw => by cases ds <;> simp [DataW.TrodAll] at h
  | t :: ts, ats, v :: vs, [], ps, ha, hk, h, hw => by simp [DataW.TrodAll] at h
  | t :: ts, ats, v :: vs, d :: ds, ps, ha, hk, h, hw => by
    cases ha with
    | @cons _ _ g l ats' hd ha =>
      obtain ⟨p, q, h1, h2, rfl⟩ := h
      simp only [DataW.weightsEach, List.mem_append] at hw
      obtain ⟨q1, f1, k1⟩ := arg_lv K hdt hd (hk 0 t v (by simp) (by simp)) h1 (fun y hy => hw y (.inl hy))
      obtain ⟨qs, fs, k2⟩ := args_lv K hdt ha (fun j t' v' hj hv => hk (j + 1) t' v' (by simpa using hj) (by simpa using hv)) h2 (fun y hy => hw y (.inr hy))
      exact ⟨q1 :: qs, f1 ++ fs, .rd k1 k2⟩

theorem sameAt_fr (h : Fr W [] W') {p : MemPlace} (hp : p.block < W.heap.size) : W.sameAt W' p := by
  have hb := h.block p.block hp (by simp)
  cases p with
  | cell b o => simp only [World.sameAt, World.cell?]; rw [show W'.heap[b]? = W.heap[b]? from hb]
  | map b => exact hb

theorem trodAll_fr (h : Fr W [] W') {sp : Nat → Bool} : ∀ {ts : List TypeId} {vs : List Value} {ds : List (DataW H)} {ps : List MemPlace}, DataW.TrodAll enc P W 0 sp true ts vs ds ps → (∀ p ∈ ps, p.block < W.heap.size) → DataW.TrodAll enc P W' 0 sp true ts vs ds ps
  | [], [], [], _, h0, _ => h0
  | [], [], _ :: _, _, h0, _ => h0.elim
  | [], _ :: _, _, _, h0, _ => h0.elim
  | _ :: _, [], _, _, h0, _ => h0.elim
  | _ :: _, _ :: _, [], _, h0, _ => h0.elim
  | t :: ts, v :: vs, d :: ds, _, ⟨p, q, ⟨n, h1⟩, h2, e⟩, hl => by
    subst e
    exact ⟨p, q, ⟨n, DataW.trod_carry n t _ _ h1 fun x hx => sameAt_fr h (hl x (List.mem_append_left _ hx))⟩, trodAll_fr h h2 fun x hx => hl x (List.mem_append_right _ hx), rfl⟩

theorem keptBut_fr (h : Fr W [] W') (may : MemPlace → Prop) : W.keptBut W' may := by
  refine ⟨h.os, h.output, fun i hi => ?_⟩
  rw [h.block i hi (by simp)]
  have := (World.keptBut_refl W may).2.2 i hi
  exact this

/-- A law's contract is its row's. -/
theorem law_post {fn : Func} {f : FuncId} {s : ChangeSpec} {c : FSpec} {tb : Nat} {base : Nat} {args : Array Value} {ds gs : List (DataW H)} {before : List MemPlace} (hl : laidOutB P = true) (hmr : mapsRowed P = true)
    (hsl : ((List.range P.types.size).all fun t => match P.underlying t with | some (.slice e) => decide (0 < P.cellsOf e) | _ => true) = true)
    (hdt : ∀ t g l, Dat P t g l → t < P.types.size) (hm : Meets P f c) (hG : GlOk W []) (ha : ArgTys P fn.params.toList c.args) (hpar : ∀ t ∈ fn.params.toList, t < P.types.size) (hb : P.underlying tb = some .bool) (hres : fn.resultTypes = #[tb])
    (hv : s.vars = []) (hfn : ∀ H ds, ds.length = fn.params.size → (s.fn H ds).results = [.lit (.bool true)] ∧ (s.fn H ds).args = ds ∧ (s.fn H ds).vars = [])
    (hc : c.ret = [.bool] ∧ c.fresh = true ∧ (∀ ps, c.pre ps) ∧ ∀ ps, c.res ps = [.bool true]) (hrd : allRd c.args = true)
    (hval : ∀ (j : Nat) t v, fn.params[j]? = some t → args[j]? = some v → Value.okWide P W .any base t v)
    (hW : DataW.Whole enc P fn.params.toList s.vars false W args.toList ds gs before)
    (hwt : (DataW.weightsEach P (fn.params.toList ++ s.plain.varTypes P) (ds ++ gs)).all (· ≤ reachBytes) = true) :
    Calls P f args W fun e W' => ∃ v, e = .returned v ∧ s.post enc P fn false true false false W args v W' := by
  have hW' := hW
  have hlt := hW.lt
  obtain ⟨p, q, hA, hV, rfl, hfz, _⟩ := hW
  rw [hv] at hV
  have hg : gs = [] ∧ q = [] := by
    cases gs with
    | nil => exact ⟨rfl, hV⟩
    | cons _ _ => exact hV.elim
  obtain ⟨rfl, rfl⟩ := hg
  have hdl : ∀ {ts : List TypeId} {vs : List Value} {ds : List (DataW H)} {ps : List MemPlace}, DataW.TrodAll enc P W 0 (fun _ => true) true ts vs ds ps → ds.length = ts.length := by
    intro ts
    induction ts with
    | nil => intro vs ds ps h; cases vs <;> cases ds <;> simp [DataW.TrodAll] at h ⊢
    | cons t ts ih => intro vs ds ps h; cases vs <;> cases ds <;> simp [DataW.TrodAll] at h ⊢; obtain ⟨_, _, _, h2, _⟩ := h; exact ih h2
  have hlen := hdl hA
  have hvt : s.plain.varTypes P = [] := by simp [ChangeSpec.plain, DataSpec.varTypes, hv]
  simp only [List.append_nil, hvt] at hwt hW'
  have K := kids_rows hl hmr
  obtain ⟨qs, fs, hargs⟩ := args_lv K hdt ha (fun j t v hj hv' => hval j t v (by simpa using hj) (by simpa using hv')) hA (fun y hy => by simpa using List.all_eq_true.1 hwt y hy)
  obtain ⟨c1, c2, c3, c4⟩ := hc
  obtain ⟨r1, r2, r3⟩ := hfn H ds (by simpa using hlen)
  have hcall := hm W qs _ fs fs [] hargs (by simp) (by simp) (c3 qs) hG
  simp only [Array.toArray_toList] at hcall
  refine hcall.mono fun e W' he => ?_
  obtain ⟨rvs, rfl, hFr, hcase⟩ := he
  have hret : ∃ fr, RetVs W' c.ret (c.res qs) rvs fr := by
    rcases hcase with ⟨_, fr, mo, h, _⟩ | ⟨h, _⟩
    · exact ⟨fr, h⟩
    · rw [c2] at h; cases h
  obtain ⟨fr, hret⟩ := hret
  rw [c1, c4] at hret
  have hrv : rvs = [.bool true] := by
    cases hret with
    | cons h1 h2 =>
      cases h2
      obtain ⟨fs', h1, _⟩ := h1
      cases h1 with
      | bool h => cases h; rfl
  subst hrv
  have hsame : ∀ sp : Nat → Bool, (∀ x ∈ p, sp x.block = true) → DataW.TrodAll enc P W' 0 sp true fn.params.toList args.toList ds p := fun sp hsp =>
    trodAll_fr hFr (hA.respare (T := (· < P.types.size)) K (fun t e ht => slices_full_of P hsl t e ht) hpar hsp) (fun x hx => hlt x (by simp [hx]))
  refine ⟨_, rfl, ds, [], p, [], p, [], by simpa using hW', ?_, ?_, ?_, keptBut_fr hFr _, fun h => by cases h⟩
  · simp only [List.append_nil, r1, hres]
    exact trodAll_cons_mk (shut_bool hb _) trodAll_mk0
  · simp only [List.append_nil, r2]
    exact hsame _ fun x hx => by simpa using hlt x (by simp [hx])
  · simp only [List.append_nil, r3, hv]; rfl

end
end Go.Proofs.YtolgjekokdimoaaGreatDoor
end

section
namespace Go.Proofs.YtolgjekokdimoaaGreatDoor
variable [LaidG]
set_option maxRecDepth 100000

theorem lt2 : 2 < Tryz.prog.types.size := of_decide_eq_true (by kernel_rfl)
theorem D2 : Dat Tryz.prog 2 false [.int .i64] := .int Tryz.underlying2 lt2
theorem lt3 : 3 < Tryz.prog.types.size := of_decide_eq_true (by kernel_rfl)
theorem D3 : Dat Tryz.prog 3 false [.int .i64] := .int Tryz.underlying3 lt3
theorem lt4 : 4 < Tryz.prog.types.size := of_decide_eq_true (by kernel_rfl)
theorem D4 : Dat Tryz.prog 4 false [.bool] := .bool Tryz.underlying4 lt4
theorem lt5 : 5 < Tryz.prog.types.size := of_decide_eq_true (by kernel_rfl)
theorem D5 : Dat Tryz.prog 5 false [.int .u8] := .int Tryz.underlying5 lt5
theorem lt6 : 6 < Tryz.prog.types.size := of_decide_eq_true (by kernel_rfl)
theorem D6 : Dat Tryz.prog 6 false [.int .u8] := .int Tryz.underlying6 lt6
theorem lt7 : 7 < Tryz.prog.types.size := of_decide_eq_true (by kernel_rfl)
theorem D7 : Dat Tryz.prog 7 true [.int .i64, .int .i64, .bool, .int .u8] := .struct Tryz.underlying7 (.cons (l := [.int .i64]) (m := [.int .i64, .bool, .int .u8]) D2 (by kernel_rfl) (.cons (l := [.int .i64]) (m := [.bool, .int .u8]) D3 (by kernel_rfl) (.cons (l := [.bool]) (m := [.int .u8]) D4 (by kernel_rfl) (.cons (l := [.int .u8]) (m := []) D6 (by kernel_rfl) .nil)))) (by kernel_rfl) lt7
theorem lt8 : 8 < Tryz.prog.types.size := of_decide_eq_true (by kernel_rfl)
theorem D8 : Dat Tryz.prog 8 true [.int .i64, .int .i64, .bool, .int .u8] := .struct Tryz.underlying8 (.cons (l := [.int .i64]) (m := [.int .i64, .bool, .int .u8]) D2 (by kernel_rfl) (.cons (l := [.int .i64]) (m := [.bool, .int .u8]) D3 (by kernel_rfl) (.cons (l := [.bool]) (m := [.int .u8]) D4 (by kernel_rfl) (.cons (l := [.int .u8]) (m := []) D6 (by kernel_rfl) .nil)))) (by kernel_rfl) lt8
theorem lt9 : 9 < Tryz.prog.types.size := of_decide_eq_true (by kernel_rfl)
theorem D9 : Dat Tryz.prog 9 false [.str] := .str Tryz.underlying9 lt9
theorem lt10 : 10 < Tryz.prog.types.size := of_decide_eq_true (by kernel_rfl)
theorem D10 : Dat Tryz.prog 10 false [.str] := .str Tryz.underlying10 lt10
theorem lt11 : 11 < Tryz.prog.types.size := of_decide_eq_true (by kernel_rfl)
theorem D11 : Dat Tryz.prog 11 false [.str] := .str Tryz.underlying11 lt11
theorem lt12 : 12 < Tryz.prog.types.size := of_decide_eq_true (by kernel_rfl)
theorem D12 : Dat Tryz.prog 12 false [.int .u64] := .int Tryz.underlying12 lt12
theorem lt13 : 13 < Tryz.prog.types.size := of_decide_eq_true (by kernel_rfl)
theorem D13 : Dat Tryz.prog 13 true [.str, .int .u64] := .struct Tryz.underlying13 (.cons (l := [.str]) (m := [.int .u64]) D9 (by kernel_rfl) (.cons (l := [.int .u64]) (m := []) D12 (by kernel_rfl) .nil)) (by kernel_rfl) lt13
theorem lt14 : 14 < Tryz.prog.types.size := of_decide_eq_true (by kernel_rfl)
theorem D14 : Dat Tryz.prog 14 true [.str, .int .u64] := .struct Tryz.underlying14 (.cons (l := [.str]) (m := [.int .u64]) D9 (by kernel_rfl) (.cons (l := [.int .u64]) (m := []) D12 (by kernel_rfl) .nil)) (by kernel_rfl) lt14
theorem lt21 : 21 < Tryz.prog.types.size := of_decide_eq_true (by kernel_rfl)
theorem D21 : Dat Tryz.prog 21 false [.int .i32] := .int Tryz.underlying21 lt21
theorem lt22 : 22 < Tryz.prog.types.size := of_decide_eq_true (by kernel_rfl)
theorem D22 : Dat Tryz.prog 22 false [.list (.str)] := .slice (e := 9) (g := false) (l := [.str]) Tryz.underlying22 D9 (by kernel_rfl) (by decide) (of_decide_eq_true (by kernel_rfl)) lt22
theorem lt23 : 23 < Tryz.prog.types.size := of_decide_eq_true (by kernel_rfl)
theorem D23 : Dat Tryz.prog 23 true [.int .i64, .int .i64, .int .i64, .list (.str)] := .struct Tryz.underlying23 (.cons (l := [.int .i64]) (m := [.int .i64, .int .i64, .list (.str)]) D3 (by kernel_rfl) (.cons (l := [.int .i64]) (m := [.int .i64, .list (.str)]) D3 (by kernel_rfl) (.cons (l := [.int .i64]) (m := [.list (.str)]) D3 (by kernel_rfl) (.cons (l := [.list (.str)]) (m := []) D22 (by kernel_rfl) .nil)))) (by kernel_rfl) lt23
theorem lt24 : 24 < Tryz.prog.types.size := of_decide_eq_true (by kernel_rfl)
theorem D24 : Dat Tryz.prog 24 true [.int .i64, .int .i64, .int .i64, .list (.str)] := .struct Tryz.underlying24 (.cons (l := [.int .i64]) (m := [.int .i64, .int .i64, .list (.str)]) D3 (by kernel_rfl) (.cons (l := [.int .i64]) (m := [.int .i64, .list (.str)]) D3 (by kernel_rfl) (.cons (l := [.int .i64]) (m := [.list (.str)]) D3 (by kernel_rfl) (.cons (l := [.list (.str)]) (m := []) D22 (by kernel_rfl) .nil)))) (by kernel_rfl) lt24
theorem lt25 : 25 < Tryz.prog.types.size := of_decide_eq_true (by kernel_rfl)
theorem D25 : Dat Tryz.prog 25 true [.int .i64, .str, .str, .int .i64, .int .i64, .int .i64, .list (.str)] := .struct Tryz.underlying25 (.cons (l := [.int .i64]) (m := [.str, .str, .int .i64, .int .i64, .int .i64, .list (.str)]) D3 (by kernel_rfl) (.cons (l := [.str]) (m := [.str, .int .i64, .int .i64, .int .i64, .list (.str)]) D9 (by kernel_rfl) (.cons (l := [.str]) (m := [.int .i64, .int .i64, .int .i64, .list (.str)]) D9 (by kernel_rfl) (.cons (l := [.int .i64, .int .i64, .int .i64, .list (.str)]) (m := []) D24 (by kernel_rfl) .nil)))) (by kernel_rfl) lt25
theorem lt26 : 26 < Tryz.prog.types.size := of_decide_eq_true (by kernel_rfl)
theorem D26 : Dat Tryz.prog 26 true [.int .i64, .str, .str, .int .i64, .int .i64, .int .i64, .list (.str)] := .struct Tryz.underlying26 (.cons (l := [.int .i64]) (m := [.str, .str, .int .i64, .int .i64, .int .i64, .list (.str)]) D3 (by kernel_rfl) (.cons (l := [.str]) (m := [.str, .int .i64, .int .i64, .int .i64, .list (.str)]) D9 (by kernel_rfl) (.cons (l := [.str]) (m := [.int .i64, .int .i64, .int .i64, .list (.str)]) D9 (by kernel_rfl) (.cons (l := [.int .i64, .int .i64, .int .i64, .list (.str)]) (m := []) D24 (by kernel_rfl) .nil)))) (by kernel_rfl) lt26
theorem lt98 : 98 < Tryz.prog.types.size := of_decide_eq_true (by kernel_rfl)
theorem D98 : Dat Tryz.prog 98 true [.int .i64, .str] := .struct Tryz.underlying98 (.cons (l := [.int .i64]) (m := [.str]) D3 (by kernel_rfl) (.cons (l := [.str]) (m := []) D9 (by kernel_rfl) .nil)) (by kernel_rfl) lt98
theorem lt27 : 27 < Tryz.prog.types.size := of_decide_eq_true (by kernel_rfl)
theorem D27 : Dat Tryz.prog 27 false [.list (.agg [.int .i64, .str])] := .slice (e := 98) (g := true) (l := [.int .i64, .str]) Tryz.underlying27 D98 (by kernel_rfl) (by decide) (of_decide_eq_true (by kernel_rfl)) lt27
theorem lt28 : 28 < Tryz.prog.types.size := of_decide_eq_true (by kernel_rfl)
theorem D28 : Dat Tryz.prog 28 true [.int .i64, .int .i64, .bool, .int .i64, .int .i64, .list (.agg [.int .i64, .str])] := .struct Tryz.underlying28 (.cons (l := [.int .i64]) (m := [.int .i64, .bool, .int .i64, .int .i64, .list (.agg [.int .i64, .str])]) D3 (by kernel_rfl) (.cons (l := [.int .i64]) (m := [.bool, .int .i64, .int .i64, .list (.agg [.int .i64, .str])]) D3 (by kernel_rfl) (.cons (l := [.bool]) (m := [.int .i64, .int .i64, .list (.agg [.int .i64, .str])]) D4 (by kernel_rfl) (.cons (l := [.int .i64]) (m := [.int .i64, .list (.agg [.int .i64, .str])]) D3 (by kernel_rfl) (.cons (l := [.int .i64]) (m := [.list (.agg [.int .i64, .str])]) D3 (by kernel_rfl) (.cons (l := [.list (.agg [.int .i64, .str])]) (m := []) D27 (by kernel_rfl) .nil)))))) (by kernel_rfl) lt28
theorem lt29 : 29 < Tryz.prog.types.size := of_decide_eq_true (by kernel_rfl)
theorem D29 : Dat Tryz.prog 29 true [.int .i64, .int .i64, .bool, .int .i64, .int .i64, .list (.agg [.int .i64, .str])] := .struct Tryz.underlying29 (.cons (l := [.int .i64]) (m := [.int .i64, .bool, .int .i64, .int .i64, .list (.agg [.int .i64, .str])]) D3 (by kernel_rfl) (.cons (l := [.int .i64]) (m := [.bool, .int .i64, .int .i64, .list (.agg [.int .i64, .str])]) D3 (by kernel_rfl) (.cons (l := [.bool]) (m := [.int .i64, .int .i64, .list (.agg [.int .i64, .str])]) D4 (by kernel_rfl) (.cons (l := [.int .i64]) (m := [.int .i64, .list (.agg [.int .i64, .str])]) D3 (by kernel_rfl) (.cons (l := [.int .i64]) (m := [.list (.agg [.int .i64, .str])]) D3 (by kernel_rfl) (.cons (l := [.list (.agg [.int .i64, .str])]) (m := []) D27 (by kernel_rfl) .nil)))))) (by kernel_rfl) lt29
theorem lt32 : 32 < Tryz.prog.types.size := of_decide_eq_true (by kernel_rfl)
theorem D32 : Dat Tryz.prog 32 true [.int .i64, .int .i64, .int .i64, .list (.str)] := .struct Tryz.underlying32 (.cons (l := [.int .i64]) (m := [.int .i64, .int .i64, .list (.str)]) D3 (by kernel_rfl) (.cons (l := [.int .i64]) (m := [.int .i64, .list (.str)]) D3 (by kernel_rfl) (.cons (l := [.int .i64]) (m := [.list (.str)]) D3 (by kernel_rfl) (.cons (l := [.list (.str)]) (m := []) D22 (by kernel_rfl) .nil)))) (by kernel_rfl) lt32
theorem lt33 : 33 < Tryz.prog.types.size := of_decide_eq_true (by kernel_rfl)
theorem D33 : Dat Tryz.prog 33 true [.int .i64, .str, .str, .int .i64, .int .i64, .int .i64, .list (.str)] := .struct Tryz.underlying33 (.cons (l := [.int .i64]) (m := [.str, .str, .int .i64, .int .i64, .int .i64, .list (.str)]) D3 (by kernel_rfl) (.cons (l := [.str]) (m := [.str, .int .i64, .int .i64, .int .i64, .list (.str)]) D9 (by kernel_rfl) (.cons (l := [.str]) (m := [.int .i64, .int .i64, .int .i64, .list (.str)]) D9 (by kernel_rfl) (.cons (l := [.int .i64, .int .i64, .int .i64, .list (.str)]) (m := []) D32 (by kernel_rfl) .nil)))) (by kernel_rfl) lt33
theorem lt34 : 34 < Tryz.prog.types.size := of_decide_eq_true (by kernel_rfl)
theorem D34 : Dat Tryz.prog 34 true [.int .i64, .str, .str, .int .i64, .int .i64, .int .i64, .list (.str)] := .struct Tryz.underlying34 (.cons (l := [.int .i64]) (m := [.str, .str, .int .i64, .int .i64, .int .i64, .list (.str)]) D3 (by kernel_rfl) (.cons (l := [.str]) (m := [.str, .int .i64, .int .i64, .int .i64, .list (.str)]) D9 (by kernel_rfl) (.cons (l := [.str]) (m := [.int .i64, .int .i64, .int .i64, .list (.str)]) D9 (by kernel_rfl) (.cons (l := [.int .i64, .int .i64, .int .i64, .list (.str)]) (m := []) D32 (by kernel_rfl) .nil)))) (by kernel_rfl) lt34
theorem lt94 : 94 < Tryz.prog.types.size := of_decide_eq_true (by kernel_rfl)
theorem D94 : Dat Tryz.prog 94 true [.int .i64, .str] := .struct Tryz.underlying94 (.cons (l := [.int .i64]) (m := [.str]) D3 (by kernel_rfl) (.cons (l := [.str]) (m := []) D9 (by kernel_rfl) .nil)) (by kernel_rfl) lt94
theorem lt38 : 38 < Tryz.prog.types.size := of_decide_eq_true (by kernel_rfl)
theorem D38 : Dat Tryz.prog 38 false [.list (.agg [.int .i64, .str])] := .slice (e := 94) (g := true) (l := [.int .i64, .str]) Tryz.underlying38 D94 (by kernel_rfl) (by decide) (of_decide_eq_true (by kernel_rfl)) lt38
theorem lt39 : 39 < Tryz.prog.types.size := of_decide_eq_true (by kernel_rfl)
theorem D39 : Dat Tryz.prog 39 true [.int .i64, .int .i64, .bool, .int .i64, .int .i64, .list (.agg [.int .i64, .str])] := .struct Tryz.underlying39 (.cons (l := [.int .i64]) (m := [.int .i64, .bool, .int .i64, .int .i64, .list (.agg [.int .i64, .str])]) D3 (by kernel_rfl) (.cons (l := [.int .i64]) (m := [.bool, .int .i64, .int .i64, .list (.agg [.int .i64, .str])]) D3 (by kernel_rfl) (.cons (l := [.bool]) (m := [.int .i64, .int .i64, .list (.agg [.int .i64, .str])]) D4 (by kernel_rfl) (.cons (l := [.int .i64]) (m := [.int .i64, .list (.agg [.int .i64, .str])]) D3 (by kernel_rfl) (.cons (l := [.int .i64]) (m := [.list (.agg [.int .i64, .str])]) D3 (by kernel_rfl) (.cons (l := [.list (.agg [.int .i64, .str])]) (m := []) D38 (by kernel_rfl) .nil)))))) (by kernel_rfl) lt39
theorem lt40 : 40 < Tryz.prog.types.size := of_decide_eq_true (by kernel_rfl)
theorem D40 : Dat Tryz.prog 40 true [.int .i64, .int .i64, .bool, .int .i64, .int .i64, .list (.agg [.int .i64, .str])] := .struct Tryz.underlying40 (.cons (l := [.int .i64]) (m := [.int .i64, .bool, .int .i64, .int .i64, .list (.agg [.int .i64, .str])]) D3 (by kernel_rfl) (.cons (l := [.int .i64]) (m := [.bool, .int .i64, .int .i64, .list (.agg [.int .i64, .str])]) D3 (by kernel_rfl) (.cons (l := [.bool]) (m := [.int .i64, .int .i64, .list (.agg [.int .i64, .str])]) D4 (by kernel_rfl) (.cons (l := [.int .i64]) (m := [.int .i64, .list (.agg [.int .i64, .str])]) D3 (by kernel_rfl) (.cons (l := [.int .i64]) (m := [.list (.agg [.int .i64, .str])]) D3 (by kernel_rfl) (.cons (l := [.list (.agg [.int .i64, .str])]) (m := []) D38 (by kernel_rfl) .nil)))))) (by kernel_rfl) lt40
theorem lt50 : 50 < Tryz.prog.types.size := of_decide_eq_true (by kernel_rfl)
theorem D50 : Dat Tryz.prog 50 false [.list (.int .u8)] := .slice (e := 5) (g := false) (l := [.int .u8]) Tryz.underlying50 D5 (by kernel_rfl) (by decide) (of_decide_eq_true (by kernel_rfl)) lt50
theorem lt93 : 93 < Tryz.prog.types.size := of_decide_eq_true (by kernel_rfl)
theorem D93 : Dat Tryz.prog 93 true [.int .i64, .str] := .struct Tryz.underlying93 (.cons (l := [.int .i64]) (m := [.str]) D3 (by kernel_rfl) (.cons (l := [.str]) (m := []) D9 (by kernel_rfl) .nil)) (by kernel_rfl) lt93
theorem lt103 : 103 < Tryz.prog.types.size := of_decide_eq_true (by kernel_rfl)
theorem D103 : Dat Tryz.prog 103 false [.list (.int .i64)] := .slice (e := 3) (g := false) (l := [.int .i64]) Tryz.underlying103 D3 (by kernel_rfl) (by decide) (of_decide_eq_true (by kernel_rfl)) lt103
theorem lt112 : 112 < Tryz.prog.types.size := of_decide_eq_true (by kernel_rfl)
theorem D112 : Dat Tryz.prog 112 true [.list (.int .u8), .int .i64, .int .i64] := .struct Tryz.underlying112 (.cons (l := [.list (.int .u8)]) (m := [.int .i64, .int .i64]) D50 (by kernel_rfl) (.cons (l := [.int .i64]) (m := [.int .i64]) D3 (by kernel_rfl) (.cons (l := [.int .i64]) (m := []) D3 (by kernel_rfl) .nil))) (by kernel_rfl) lt112
theorem lt113 : 113 < Tryz.prog.types.size := of_decide_eq_true (by kernel_rfl)
theorem D113 : Dat Tryz.prog 113 true [.list (.int .u8), .int .i64, .int .i64] := .struct Tryz.underlying113 (.cons (l := [.list (.int .u8)]) (m := [.int .i64, .int .i64]) D50 (by kernel_rfl) (.cons (l := [.int .i64]) (m := [.int .i64]) D3 (by kernel_rfl) (.cons (l := [.int .i64]) (m := []) D3 (by kernel_rfl) .nil))) (by kernel_rfl) lt113
theorem lt137 : 137 < Tryz.prog.types.size := of_decide_eq_true (by kernel_rfl)
theorem D137 : Dat Tryz.prog 137 true [.int .i64, .int .i64] := .struct Tryz.underlying137 (.cons (l := [.int .i64]) (m := [.int .i64]) D3 (by kernel_rfl) (.cons (l := [.int .i64]) (m := []) D3 (by kernel_rfl) .nil)) (by kernel_rfl) lt137
theorem lt116 : 116 < Tryz.prog.types.size := of_decide_eq_true (by kernel_rfl)
theorem D116 : Dat Tryz.prog 116 false [.list (.agg [.int .i64, .int .i64])] := .slice (e := 137) (g := true) (l := [.int .i64, .int .i64]) Tryz.underlying116 D137 (by kernel_rfl) (by decide) (of_decide_eq_true (by kernel_rfl)) lt116
theorem lt117 : 117 < Tryz.prog.types.size := of_decide_eq_true (by kernel_rfl)
theorem D117 : Dat Tryz.prog 117 true [.int .i64, .int .i64, .int .i64, .int .i64, .int .i64, .int .i64, .int .i64, .int .i64, .int .i64, .str, .list (.agg [.int .i64, .int .i64]), .list (.str)] := .struct Tryz.underlying117 (.cons (l := [.int .i64]) (m := [.int .i64, .int .i64, .int .i64, .int .i64, .int .i64, .int .i64, .int .i64, .int .i64, .str, .list (.agg [.int .i64, .int .i64]), .list (.str)]) D3 (by kernel_rfl) (.cons (l := [.int .i64]) (m := [.int .i64, .int .i64, .int .i64, .int .i64, .int .i64, .int .i64, .int .i64, .str, .list (.agg [.int .i64, .int .i64]), .list (.str)]) D3 (by kernel_rfl) (.cons (l := [.int .i64]) (m := [.int .i64, .int .i64, .int .i64, .int .i64, .int .i64, .int .i64, .str, .list (.agg [.int .i64, .int .i64]), .list (.str)]) D3 (by kernel_rfl) (.cons (l := [.int .i64]) (m := [.int .i64, .int .i64, .int .i64, .int .i64, .int .i64, .str, .list (.agg [.int .i64, .int .i64]), .list (.str)]) D3 (by kernel_rfl) (.cons (l := [.int .i64]) (m := [.int .i64, .int .i64, .int .i64, .int .i64, .str, .list (.agg [.int .i64, .int .i64]), .list (.str)]) D3 (by kernel_rfl) (.cons (l := [.int .i64]) (m := [.int .i64, .int .i64, .int .i64, .str, .list (.agg [.int .i64, .int .i64]), .list (.str)]) D3 (by kernel_rfl) (.cons (l := [.int .i64]) (m := [.int .i64, .int .i64, .str, .list (.agg [.int .i64, .int .i64]), .list (.str)]) D3 (by kernel_rfl) (.cons (l := [.int .i64]) (m := [.int .i64, .str, .list (.agg [.int .i64, .int .i64]), .list (.str)]) D3 (by kernel_rfl) (.cons (l := [.int .i64]) (m := [.str, .list (.agg [.int .i64, .int .i64]), .list (.str)]) D3 (by kernel_rfl) (.cons (l := [.str]) (m := [.list (.agg [.int .i64, .int .i64]), .list (.str)]) D9 (by kernel_rfl) (.cons (l := [.list (.agg [.int .i64, .int .i64])]) (m := [.list (.str)]) D116 (by kernel_rfl) (.cons (l := [.list (.str)]) (m := []) D22 (by kernel_rfl) .nil)))))))))))) (by kernel_rfl) lt117
theorem lt118 : 118 < Tryz.prog.types.size := of_decide_eq_true (by kernel_rfl)
theorem D118 : Dat Tryz.prog 118 true [.int .i64, .int .i64, .int .i64, .int .i64, .int .i64, .int .i64, .int .i64, .int .i64, .int .i64, .str, .list (.agg [.int .i64, .int .i64]), .list (.str)] := .struct Tryz.underlying118 (.cons (l := [.int .i64]) (m := [.int .i64, .int .i64, .int .i64, .int .i64, .int .i64, .int .i64, .int .i64, .int .i64, .str, .list (.agg [.int .i64, .int .i64]), .list (.str)]) D3 (by kernel_rfl) (.cons (l := [.int .i64]) (m := [.int .i64, .int .i64, .int .i64, .int .i64, .int .i64, .int .i64, .int .i64, .str, .list (.agg [.int .i64, .int .i64]), .list (.str)]) D3 (by kernel_rfl) (.cons (l := [.int .i64]) (m := [.int .i64, .int .i64, .int .i64, .int .i64, .int .i64, .int .i64, .str, .list (.agg [.int .i64, .int .i64]), .list (.str)]) D3 (by kernel_rfl) (.cons (l := [.int .i64]) (m := [.int .i64, .int .i64, .int .i64, .int .i64, .int .i64, .str, .list (.agg [.int .i64, .int .i64]), .list (.str)]) D3 (by kernel_rfl) (.cons (l := [.int .i64]) (m := [.int .i64, .int .i64, .int .i64, .int .i64, .str, .list (.agg [.int .i64, .int .i64]), .list (.str)]) D3 (by kernel_rfl) (.cons (l := [.int .i64]) (m := [.int .i64, .int .i64, .int .i64, .str, .list (.agg [.int .i64, .int .i64]), .list (.str)]) D3 (by kernel_rfl) (.cons (l := [.int .i64]) (m := [.int .i64, .int .i64, .str, .list (.agg [.int .i64, .int .i64]), .list (.str)]) D3 (by kernel_rfl) (.cons (l := [.int .i64]) (m := [.int .i64, .str, .list (.agg [.int .i64, .int .i64]), .list (.str)]) D3 (by kernel_rfl) (.cons (l := [.int .i64]) (m := [.str, .list (.agg [.int .i64, .int .i64]), .list (.str)]) D3 (by kernel_rfl) (.cons (l := [.str]) (m := [.list (.agg [.int .i64, .int .i64]), .list (.str)]) D9 (by kernel_rfl) (.cons (l := [.list (.agg [.int .i64, .int .i64])]) (m := [.list (.str)]) D116 (by kernel_rfl) (.cons (l := [.list (.str)]) (m := []) D22 (by kernel_rfl) .nil)))))))))))) (by kernel_rfl) lt118
theorem lt120 : 120 < Tryz.prog.types.size := of_decide_eq_true (by kernel_rfl)
theorem D120 : Dat Tryz.prog 120 true [.int .i64, .list (.int .i64), .bool, .str, .str] := .struct Tryz.underlying120 (.cons (l := [.int .i64]) (m := [.list (.int .i64), .bool, .str, .str]) D3 (by kernel_rfl) (.cons (l := [.list (.int .i64)]) (m := [.bool, .str, .str]) D103 (by kernel_rfl) (.cons (l := [.bool]) (m := [.str, .str]) D4 (by kernel_rfl) (.cons (l := [.str]) (m := [.str]) D9 (by kernel_rfl) (.cons (l := [.str]) (m := []) D9 (by kernel_rfl) .nil))))) (by kernel_rfl) lt120
theorem lt121 : 121 < Tryz.prog.types.size := of_decide_eq_true (by kernel_rfl)
theorem D121 : Dat Tryz.prog 121 true [.int .i64, .list (.int .i64), .bool, .str, .str] := .struct Tryz.underlying121 (.cons (l := [.int .i64]) (m := [.list (.int .i64), .bool, .str, .str]) D3 (by kernel_rfl) (.cons (l := [.list (.int .i64)]) (m := [.bool, .str, .str]) D103 (by kernel_rfl) (.cons (l := [.bool]) (m := [.str, .str]) D4 (by kernel_rfl) (.cons (l := [.str]) (m := [.str]) D9 (by kernel_rfl) (.cons (l := [.str]) (m := []) D9 (by kernel_rfl) .nil))))) (by kernel_rfl) lt121
theorem lt136 : 136 < Tryz.prog.types.size := of_decide_eq_true (by kernel_rfl)
theorem D136 : Dat Tryz.prog 136 true [.int .i64, .int .i64] := .struct Tryz.underlying136 (.cons (l := [.int .i64]) (m := [.int .i64]) D3 (by kernel_rfl) (.cons (l := [.int .i64]) (m := []) D3 (by kernel_rfl) .nil)) (by kernel_rfl) lt136
theorem lt142 : 142 < Tryz.prog.types.size := of_decide_eq_true (by kernel_rfl)
theorem D142 : Dat Tryz.prog 142 false [.int .u64] := .int Tryz.underlying142 lt142
theorem lt153 : 153 < Tryz.prog.types.size := of_decide_eq_true (by kernel_rfl)
theorem D153 : Dat Tryz.prog 153 true [.int .i64, .int .i64, .bool, .list (.int .i64), .str] := .struct Tryz.underlying153 (.cons (l := [.int .i64]) (m := [.int .i64, .bool, .list (.int .i64), .str]) D3 (by kernel_rfl) (.cons (l := [.int .i64]) (m := [.bool, .list (.int .i64), .str]) D3 (by kernel_rfl) (.cons (l := [.bool]) (m := [.list (.int .i64), .str]) D4 (by kernel_rfl) (.cons (l := [.list (.int .i64)]) (m := [.str]) D103 (by kernel_rfl) (.cons (l := [.str]) (m := []) D9 (by kernel_rfl) .nil))))) (by kernel_rfl) lt153
theorem lt144 : 144 < Tryz.prog.types.size := of_decide_eq_true (by kernel_rfl)
theorem D144 : Dat Tryz.prog 144 false [.list (.agg [.int .i64, .int .i64, .bool, .list (.int .i64), .str])] := .slice (e := 153) (g := true) (l := [.int .i64, .int .i64, .bool, .list (.int .i64), .str]) Tryz.underlying144 D153 (by kernel_rfl) (by decide) (of_decide_eq_true (by kernel_rfl)) lt144
theorem lt149 : 149 < Tryz.prog.types.size := of_decide_eq_true (by kernel_rfl)
theorem D149 : Dat Tryz.prog 149 true [.int .i64, .int .i64, .int .i64, .int .i64, .int .i64, .int .i64, .int .i64, .int .i64, .int .i64, .str, .list (.agg [.int .i64, .int .i64]), .list (.str)] := .struct Tryz.underlying149 (.cons (l := [.int .i64, .int .i64, .int .i64, .int .i64, .int .i64, .int .i64, .int .i64, .int .i64, .int .i64, .str, .list (.agg [.int .i64, .int .i64]), .list (.str)]) (m := []) D118 (by kernel_rfl) .nil) (by kernel_rfl) lt149
theorem lt150 : 150 < Tryz.prog.types.size := of_decide_eq_true (by kernel_rfl)
theorem D150 : Dat Tryz.prog 150 true [.int .i64, .int .i64, .int .i64, .int .i64, .int .i64, .int .i64, .int .i64, .int .i64, .int .i64, .str, .list (.agg [.int .i64, .int .i64]), .list (.str)] := .struct Tryz.underlying150 (.cons (l := [.int .i64, .int .i64, .int .i64, .int .i64, .int .i64, .int .i64, .int .i64, .int .i64, .int .i64, .str, .list (.agg [.int .i64, .int .i64]), .list (.str)]) (m := []) D118 (by kernel_rfl) .nil) (by kernel_rfl) lt150
theorem lt152 : 152 < Tryz.prog.types.size := of_decide_eq_true (by kernel_rfl)
theorem D152 : Dat Tryz.prog 152 true [.int .i64, .int .i64, .bool, .list (.int .i64), .str] := .struct Tryz.underlying152 (.cons (l := [.int .i64]) (m := [.int .i64, .bool, .list (.int .i64), .str]) D3 (by kernel_rfl) (.cons (l := [.int .i64]) (m := [.bool, .list (.int .i64), .str]) D3 (by kernel_rfl) (.cons (l := [.bool]) (m := [.list (.int .i64), .str]) D4 (by kernel_rfl) (.cons (l := [.list (.int .i64)]) (m := [.str]) D103 (by kernel_rfl) (.cons (l := [.str]) (m := []) D9 (by kernel_rfl) .nil))))) (by kernel_rfl) lt152
theorem lt171 : 171 < Tryz.prog.types.size := of_decide_eq_true (by kernel_rfl)
theorem D171 : Dat Tryz.prog 171 false [.int .u32] := .int Tryz.underlying171 lt171
theorem lt180 : 180 < Tryz.prog.types.size := of_decide_eq_true (by kernel_rfl)
theorem D180 : Dat Tryz.prog 180 true [.int .i64, .list (.int .i64), .bool, .str, .str, .list (.agg [.int .i64, .int .i64, .bool, .list (.int .i64), .str])] := .struct Tryz.underlying180 (.cons (l := [.int .i64, .list (.int .i64), .bool, .str, .str]) (m := [.list (.agg [.int .i64, .int .i64, .bool, .list (.int .i64), .str])]) D121 (by kernel_rfl) (.cons (l := [.list (.agg [.int .i64, .int .i64, .bool, .list (.int .i64), .str])]) (m := []) D144 (by kernel_rfl) .nil)) (by kernel_rfl) lt180
theorem lt181 : 181 < Tryz.prog.types.size := of_decide_eq_true (by kernel_rfl)
theorem D181 : Dat Tryz.prog 181 true [.int .i64, .list (.int .i64), .bool, .str, .str, .list (.agg [.int .i64, .int .i64, .bool, .list (.int .i64), .str])] := .struct Tryz.underlying181 (.cons (l := [.int .i64, .list (.int .i64), .bool, .str, .str]) (m := [.list (.agg [.int .i64, .int .i64, .bool, .list (.int .i64), .str])]) D121 (by kernel_rfl) (.cons (l := [.list (.agg [.int .i64, .int .i64, .bool, .list (.int .i64), .str])]) (m := []) D144 (by kernel_rfl) .nil)) (by kernel_rfl) lt181
theorem lt188 : 188 < Tryz.prog.types.size := of_decide_eq_true (by kernel_rfl)
theorem D188 : Dat Tryz.prog 188 false [.list (.int .u32)] := .slice (e := 171) (g := false) (l := [.int .u32]) Tryz.underlying188 D171 (by kernel_rfl) (by decide) (of_decide_eq_true (by kernel_rfl)) lt188
theorem lt192 : 192 < Tryz.prog.types.size := of_decide_eq_true (by kernel_rfl)
theorem D192 : Dat Tryz.prog 192 false [.int .i64] := .int Tryz.underlying192 lt192
theorem lt203 : 203 < Tryz.prog.types.size := of_decide_eq_true (by kernel_rfl)
theorem D203 : Dat Tryz.prog 203 false [.int .u64] := .int Tryz.underlying203 lt203
theorem lt229 : 229 < Tryz.prog.types.size := of_decide_eq_true (by kernel_rfl)
theorem D229 : Dat Tryz.prog 229 true [.int .u8, .int .u8] := .struct Tryz.underlying229 (.cons (l := [.int .u8]) (m := [.int .u8]) D5 (by kernel_rfl) (.cons (l := [.int .u8]) (m := []) D5 (by kernel_rfl) .nil)) (by kernel_rfl) lt229
theorem lt230 : 230 < Tryz.prog.types.size := of_decide_eq_true (by kernel_rfl)
theorem D230 : Dat Tryz.prog 230 true [.int .u8, .int .u8] := .struct Tryz.underlying230 (.cons (l := [.int .u8]) (m := [.int .u8]) D5 (by kernel_rfl) (.cons (l := [.int .u8]) (m := []) D5 (by kernel_rfl) .nil)) (by kernel_rfl) lt230
theorem lt235 : 235 < Tryz.prog.types.size := of_decide_eq_true (by kernel_rfl)
theorem D235 : Dat Tryz.prog 235 true [.str] := .struct Tryz.underlying235 (.cons (l := [.str]) (m := []) D9 (by kernel_rfl) .nil) (by kernel_rfl) lt235
theorem lt236 : 236 < Tryz.prog.types.size := of_decide_eq_true (by kernel_rfl)
theorem D236 : Dat Tryz.prog 236 true [.str] := .struct Tryz.underlying236 (.cons (l := [.str]) (m := []) D9 (by kernel_rfl) .nil) (by kernel_rfl) lt236
theorem lt245 : 245 < Tryz.prog.types.size := of_decide_eq_true (by kernel_rfl)
theorem D245 : Dat Tryz.prog 245 false [.int .u8] := .int Tryz.underlying245 lt245
theorem lt246 : 246 < Tryz.prog.types.size := of_decide_eq_true (by kernel_rfl)
theorem D246 : Dat Tryz.prog 246 false [.int .u8] := .int Tryz.underlying246 lt246
theorem lt248 : 248 < Tryz.prog.types.size := of_decide_eq_true (by kernel_rfl)
theorem D248 : Dat Tryz.prog 248 false [.int .i32] := .int Tryz.underlying248 lt248
theorem lt249 : 249 < Tryz.prog.types.size := of_decide_eq_true (by kernel_rfl)
theorem D249 : Dat Tryz.prog 249 false [.int .i32] := .int Tryz.underlying249 lt249

theorem dat_lt : ∀ t g l, Dat Tryz.prog t g l → t < Tryz.prog.types.size := fun _ _ _ h => h.lt
theorem laid_all : laidOutB Tryz.prog = true := by kernel_rfl
theorem rowed_all : mapsRowed Tryz.prog = true := by kernel_rfl
theorem slices_all : ((List.range Tryz.prog.types.size).all fun t => match Tryz.prog.underlying t with | some (.slice e) => decide (0 < Tryz.prog.cellsOf e) | _ => true) = true := by kernel_rfl
theorem own_knob : ownKnob Tryz.prog.godebug = none := by kernel_rfl

end Go.Proofs.YtolgjekokdimoaaGreatDoor
end

section
namespace Go.Proofs.YtolgjekokdimoaaGreatDoor
variable [LaidG]
open Go.ChangeShapes Go.WideShapes Go.ChangeAt Go.RowKit
set_option linter.unusedVariables false
set_option maxRecDepth 100000
section
variable {H : Type} {enc : TypeId × Value → H} {P : Program} {W W' : World}

theorem laid_mem {name : String} {k : IntKind} {zs : List Int} {g t e n : Nat} (hg : P.globalNamed name = some g) (hty : (P.globals[g]?).map (·.type) = some t) (ht : P.underlying t = some (.array n e)) (he : P.underlying e = some (.int k)) (hce : P.cellsOf e = 1) (hct : P.cellsOf t = n) :
    ∀ {laid : List (String × DataW Unit)} {ps : List MemPlace}, DataW.LaidVars P W laid ps → (name, Lib.tabData k zs) ∈ laid →
      ∃ cs, W.var? P name = some cs ∧ cs.toList = (zs.map fun z => Value.int k z) ∧ ∀ x ∈ MemPlace.row ⟨g, 0, none⟩ cs.size, x ∈ ps
  | [], ps, h, hm => by simp at hm
  | (m, d) :: r, ps, h, hm => by
    obtain ⟨g', t', cs, fuel, p, q, hg', ht', hvar, hd, hr, rfl⟩ := h
    rcases List.mem_cons.1 hm with hm | hm
    · obtain ⟨rfl, rfl⟩ := Prod.mk.inj hm
      obtain rfl := Option.some.inj (hg.symm.trans hg')
      obtain rfl := Option.some.inj (hty.symm.trans ht')
      exact ⟨cs, hvar, Lib.cells_of_tab ht he hce hct hd, fun x hx => by simp [hx]⟩
    · obtain ⟨cs', q1, q2, q3⟩ := laid_mem hg hty ht he hce hct hr hm
      exact ⟨cs', q1, q2, fun x hx => by simp [q3 x hx]⟩

theorem lv_intsZ {k : IntKind} : ∀ {zs : List Int}, (∀ z ∈ zs, inR k z) → Lv W (flatT (.int k) zs.length) (flatP (zs.map (PV.int k))) (zs.map fun z => Value.int k z) []
  | [], _ => .nil
  | z :: zs, h => .int (h z (by simp)) (lv_intsZ (zs := zs) fun x hx => h x (by simp [hx]))

theorem gl_one {name : String} {k : IntKind} {z0 : Int} {zs : List Int} {g t e n : Nat} {laid : List (String × DataW Unit)} (h : laidMet P laid W) (hm : (name, Lib.tabData k (z0 :: zs)) ∈ laid) (hg : P.globalNamed name = some g) (hty : (P.globals[g]?).map (·.type) = some t) (ht : P.underlying t = some (.array n e)) (he : P.underlying e = some (.int k)) (hce : P.cellsOf e = 1) (hct : P.cellsOf t = n)
    (hr : ∀ z ∈ z0 :: zs, inR k z) :
    g ∉ ([] : List Nat) ∧ ∃ c t, W.heap[g]? = some (.cells c t (0, 0)) ∧ flatB (.int k) = true ∧ (∀ e ∈ (z0 :: zs).map (PV.int k), Shp (.int k) e) ∧ Lv W (flatT (.int k) ((z0 :: zs).map (PV.int k)).length) (flatP ((z0 :: zs).map (PV.int k))) c.toList [] := by
  obtain ⟨ps, hL, _, hz⟩ := h
  obtain ⟨cs, q1, q2, q3⟩ := laid_mem hg hty ht he hce hct hL hm
  have hpos : 0 < cs.size := by rw [← Array.length_toList, q2]; simp
  obtain ⟨⟨c, t', hc⟩, _⟩ := hz g 0 (q3 _ (by simp [MemPlace.row]; exact hpos))
  have e : c = cs := by
    unfold World.var? at q1
    rw [hg] at q1
    have q1 : (match W.heap[g]? with | some (.cells cs _ _) => some cs | _ => none) = some cs := q1
    rw [hc] at q1
    exact Option.some.inj q1
  subst e
  refine ⟨by simp, c, t', hc, rfl, fun e he => ?_, ?_⟩
  · obtain ⟨z, hz', rfl⟩ := List.mem_map.1 he
    intro qs h; cases h
  · rw [q2, List.length_map]; exact lv_intsZ hr

theorem lt_of_name {ns : List String} (hall : (ns.all fun n => match (P.globalNamed n).bind fun g => (P.globals[g]?).map (·.type) with | some t => decide (t < P.types.size) | none => true) = true) {n : String} {g t : Nat} (hn : n ∈ ns) (hg : P.globalNamed n = some g) (ht : (P.globals[g]?).map (·.type) = some t) : t < P.types.size := by
  have h := List.all_eq_true.1 hall n hn
  have e : ((P.globalNamed n).bind fun g => (P.globals[g]?).map (·.type)) = some t := by rw [hg]; exact ht
  rw [e] at h
  exact of_decide_eq_true h
theorem var_fr (h : Fr W [] W') {n : String} {cs : Array Value} (hv : W.var? P n = some cs) : W'.var? P n = some cs := by
  unfold World.var? at hv ⊢
  cases hg : P.globalNamed n with
  | none => rw [hg] at hv; cases hv
  | some g =>
    rw [hg] at hv
    show (match W'.heap[g]? with | some (.cells cs _ _) => some cs | _ => none) = _
    have hv : (match W.heap[g]? with | some (.cells cs _ _) => some cs | _ => none) = some cs := hv
    cases hb : W.heap[g]? with
    | none => rw [hb] at hv; cases hv
    | some o =>
      rw [h.block g (Array.getElem?_eq_some_iff.1 hb).1 (by simp)]
      exact hv

theorem weights_pre {y : Nat} : ∀ {ts us : List TypeId} {ds gs : List (DataW H)}, y ∈ DataW.weightsEach P ts ds → y ∈ DataW.weightsEach P (ts ++ us) (ds ++ gs)
  | [], us, ds, gs, h => by cases ds <;> simp [DataW.weightsEach] at h
  | t :: ts, us, [], gs, h => by simp [DataW.weightsEach] at h
  | t :: ts, us, d :: ds, gs, h => by
    simp only [List.cons_append, DataW.weightsEach, List.mem_append] at h ⊢
    exact h.imp id weights_pre

theorem trodVars_len {sp : Nat → Bool} : ∀ {ns : List String} {gs : List (DataW H)} {ps : List MemPlace}, DataW.TrodVars enc P W sp ns gs ps → gs.length = ns.length
  | [], [], _, _ => rfl
  | [], _ :: _, _, h => h.elim
  | _ :: _, [], _, h => h.elim
  | n :: ns, d :: gs, ps, ⟨g, t, cs, fuel, p, q, _, _, _, _, h, _⟩ => by simp [trodVars_len h]

theorem trodVars_fr (K : Kids P (· < P.types.size)) (hsl : ((List.range P.types.size).all fun t => match P.underlying t with | some (.slice e) => decide (0 < P.cellsOf e) | _ => true) = true) (h : Fr W [] W') :
    ∀ {ns : List String} {gs : List (DataW H)} {ps : List MemPlace}, (∀ n ∈ ns, ∀ g t, P.globalNamed n = some g → (P.globals[g]?).map (·.type) = some t → t < P.types.size) → DataW.TrodVars enc P W (fun _ => true) ns gs ps → (∀ x ∈ ps, x.block < W.heap.size) → DataW.TrodVars enc P W' (fun b => decide (b < W.heap.size)) ns gs ps
  | [], [], _, _, h0, _ => h0
  | [], _ :: _, _, _, h0, _ => h0.elim
  | _ :: _, [], _, _, h0, _ => h0.elim
  | n :: ns, d :: gs, ps, hn, ⟨g, t, cs, fuel, p, q, h1, h2, h3, h4, h5, e⟩, hl => by
    subst e
    refine ⟨g, t, cs, fuel, p, q, h1, h2, var_fr h h3, ?_, trodVars_fr K hsl h (fun m hm => hn m (by simp [hm])) h5 fun x hx => hl x (by simp [hx]), rfl⟩
    have h6 := DataW.trod_respare (spare' := fun b => decide (b < W.heap.size)) K (fun t e ht => slices_full_of P hsl t e ht) fuel t cs.toList _ (hn n (by simp) g t h1 h2) h4 (fun x hx => by simpa using hl x (by simp [hx]))
    exact DataW.trod_carry fuel t _ _ h6 fun x hx => sameAt_fr h (hl x (by simp [hx]))

/-- A law's contract is its row's, where the row lists package variables. -/
theorem law_postV {fn : Func} {f : FuncId} {s : ChangeSpec} {c : FSpec} {tb : Nat} {base : Nat} {args : Array Value} {ds gs : List (DataW H)} {before : List MemPlace} (hl : laidOutB P = true) (hmr : mapsRowed P = true)
    (hsl : ((List.range P.types.size).all fun t => match P.underlying t with | some (.slice e) => decide (0 < P.cellsOf e) | _ => true) = true)
    (hdt : ∀ t g l, Dat P t g l → t < P.types.size) (hm : Meets P f c) (hG : GlOk W []) (ha : ArgTys P fn.params.toList c.args) (hpar : ∀ t ∈ fn.params.toList, t < P.types.size) (hb : P.underlying tb = some .bool) (hres : fn.resultTypes = #[tb])
    (hv : ∀ n ∈ s.vars, ∀ g t, P.globalNamed n = some g → (P.globals[g]?).map (·.type) = some t → t < P.types.size)
    (hfn : ∀ H ds gs, ds.length = fn.params.size → gs.length = s.vars.length → (s.fn H (ds ++ gs)).results = [.lit (.bool true)] ∧ (s.fn H (ds ++ gs)).args = ds ∧ (s.fn H (ds ++ gs)).vars = gs)
    (hc : c.ret = [.bool] ∧ c.fresh = true ∧ (∀ ps, c.pre ps) ∧ ∀ ps, c.res ps = [.bool true]) (hrd : allRd c.args = true)
    (hval : ∀ (j : Nat) t v, fn.params[j]? = some t → args[j]? = some v → Value.okWide P W .any base t v)
    (hW : DataW.Whole enc P fn.params.toList s.vars false W args.toList ds gs before)
    (hwt : (DataW.weightsEach P (fn.params.toList ++ s.plain.varTypes P) (ds ++ gs)).all (· ≤ reachBytes) = true) :
    Calls P f args W fun e W' => ∃ v, e = .returned v ∧ s.post enc P fn false true false false W args v W' := by
  have hW' := hW
  have hlt := hW.lt
  obtain ⟨p, q, hA, hV, rfl, hfz, _⟩ := hW
  have hdl : ∀ {ts : List TypeId} {vs : List Value} {ds : List (DataW H)} {ps : List MemPlace}, DataW.TrodAll enc P W 0 (fun _ => true) true ts vs ds ps → ds.length = ts.length := by
    intro ts
    induction ts with
    | nil => intro vs ds ps h; cases vs <;> cases ds <;> simp [DataW.TrodAll] at h ⊢
    | cons t ts ih => intro vs ds ps h; cases vs <;> cases ds <;> simp [DataW.TrodAll] at h ⊢; obtain ⟨_, _, _, h2, _⟩ := h; exact ih h2
  have hlen := hdl hA
  have K := kids_rows hl hmr
  obtain ⟨qs, fs, hargs⟩ := args_lv K hdt ha (fun j t v hj hv' => hval j t v (by simpa using hj) (by simpa using hv')) hA (fun y hy => by simpa using List.all_eq_true.1 hwt y (weights_pre hy))
  obtain ⟨c1, c2, c3, c4⟩ := hc
  obtain ⟨r1, r2, r3⟩ := hfn H ds gs (by simpa using hlen) (trodVars_len hV)
  have hcall := hm W qs _ fs fs [] hargs (by simp) (by simp) (c3 qs) hG
  simp only [Array.toArray_toList] at hcall
  refine hcall.mono fun e W' he => ?_
  obtain ⟨rvs, rfl, hFr, hcase⟩ := he
  have hret : ∃ fr, RetVs W' c.ret (c.res qs) rvs fr := by
    rcases hcase with ⟨_, fr, mo, h, _⟩ | ⟨h, _⟩
    · exact ⟨fr, h⟩
    · rw [c2] at h; cases h
  obtain ⟨fr, hret⟩ := hret
  rw [c1, c4] at hret
  have hrv : rvs = [.bool true] := by
    cases hret with
    | cons h1 h2 =>
      cases h2
      obtain ⟨fs', h1, _⟩ := h1
      cases h1 with
      | bool h => cases h; rfl
  subst hrv
  have hsame : ∀ sp : Nat → Bool, (∀ x ∈ p, sp x.block = true) → DataW.TrodAll enc P W' 0 sp true fn.params.toList args.toList ds p := fun sp hsp =>
    trodAll_fr hFr (hA.respare (T := (· < P.types.size)) K (fun t e ht => slices_full_of P hsl t e ht) hpar hsp) (fun x hx => hlt x (by simp [hx]))
  refine ⟨_, rfl, ds, gs, p ++ q, [], p, q, hW', ?_, ?_, ?_, keptBut_fr hFr _, fun h => by cases h⟩
  · simp only [r1, hres]
    exact trodAll_cons_mk (shut_bool hb _) trodAll_mk0
  · simp only [r2]
    exact hsame _ fun x hx => by simpa using hlt x (by simp [hx])
  · simp only [r3]
    exact trodVars_fr K hsl hFr hv hV fun x hx => hlt x (by simp [hx])

end
end Go.Proofs.YtolgjekokdimoaaGreatDoor
end

section
namespace Go.Proofs.YtolgjekokdimoaaGreatDoor
variable [LaidG]
open Go.ChangeShapes Go.WideShapes Go.ChangeAt Go.RowKit
set_option linter.unusedVariables false
set_option maxRecDepth 100000
section
variable {H : Type} {enc : TypeId × Value → H} {P : Program} {W W' : World}

theorem iface_of {w : World} {sp : Nat → Bool} {fuel t : Nat} {cs : List Value} {ms : Array (String × TypeId)} {s : String} {d : DataW Unit} {p : List MemPlace} (ht : P.underlying t = some (.interface ms))
    (h : DataW.trod (fun _ => ()) P w 0 sp false fuel t cs = some (.iface s d, p)) : ∃ u v, cs = [.iface u v] := by
  cases fuel with
  | zero => simp [DataW.trod] at h
  | succ fuel =>
    match cs with
    | [] => simp [DataW.trod, ht] at h
    | [a] => cases a <;> first | exact ⟨_, _, rfl⟩ | (simp [DataW.trod, ht] at h)
    | a :: b :: r => simp [DataW.trod, ht] at h
theorem laid_ifc {name s : String} {d : DataW Unit} {g t : Nat} {ms : Array (String × TypeId)} (hg : P.globalNamed name = some g) (hty : (P.globals[g]?).map (·.type) = some t) (ht : P.underlying t = some (.interface ms)) :
    ∀ {laid : List (String × DataW Unit)} {ps : List MemPlace}, DataW.LaidVars P W laid ps → (name, .iface s d) ∈ laid →
      ∃ u v, W.var? P name = some #[.iface u v] ∧ ∀ x ∈ MemPlace.row ⟨g, 0, none⟩ 1, x ∈ ps
  | [], ps, h, hm => by simp at hm
  | (m, d') :: r, ps, h, hm => by
    obtain ⟨g', t', cs, fuel, p, q, hg', ht', hvar, hd, hr, rfl⟩ := h
    rcases List.mem_cons.1 hm with hm | hm
    · obtain ⟨rfl, rfl⟩ := Prod.mk.inj hm
      obtain rfl := Option.some.inj (hg.symm.trans hg')
      obtain rfl := Option.some.inj (hty.symm.trans ht')
      obtain ⟨u, v, e⟩ := iface_of ht hd
      have e' : cs = #[.iface u v] := by apply Array.toList_inj.1; rw [e]
      subst e'
      exact ⟨u, v, hvar, fun x hx => by simp at hx ⊢; simp [hx]⟩
    · obtain ⟨u, v, q1, q2⟩ := laid_ifc hg hty ht hr hm
      exact ⟨u, v, q1, fun x hx => by simp [q2 x hx]⟩
theorem gl_ifc {name : String} {dat : DataW Unit} {g t : Nat} {ms : Array (String × TypeId)} {laid : List (String × DataW Unit)} (h : laidMet P laid W) (hdat : ∃ s d, dat = .iface s d) (hm : (name, dat) ∈ laid) (hg : P.globalNamed name = some g) (hty : (P.globals[g]?).map (·.type) = some t) (ht : P.underlying t = some (.interface ms)) :
    g ∉ ([] : List Nat) ∧ ∃ v t, W.heap[g]? = some (.cells #[v] t (0, 0)) ∧ GlV true v := by
  obtain ⟨s, d, rfl⟩ := hdat
  obtain ⟨ps, hL, _, hz⟩ := h
  obtain ⟨u, v, q1, q2⟩ := laid_ifc hg hty ht hL hm
  obtain ⟨⟨c, t', hc⟩, _⟩ := hz g 0 (q2 _ (by simp [MemPlace.row]))
  have e : c = #[.iface u v] := by
    unfold World.var? at q1
    rw [hg] at q1
    have q1 : (match W.heap[g]? with | some (.cells cs _ _) => some cs | _ => none) = some #[.iface u v] := q1
    rw [hc] at q1
    exact Option.some.inj q1
  subst e
  exact ⟨by simp, _, t', hc, .inr ⟨u, v, rfl⟩⟩
theorem gl_int {g t : Nat} {zero : Array Value} (h : W.ShapedOpen P) (hg : g < P.globals.size) (h0 : ((begin P (fun _ _ => 0) default).world.heap[g]?).bind Obj.row? = some (zero, t)) (hz : zero.size = 1)
    (hb : P.buildable t = true) (hc : P.cellTypes P.depth t = some [t]) (hu : P.underlying t = some (.int .i64)) : g ∉ ([] : List Nat) ∧ ∃ v t, W.heap[g]? = some (.cells #[v] t (0, 0)) ∧ GlV false v := by
  obtain ⟨m, hm⟩ := cell_of_shapedOpen_int h hg h0 hz hb hc hu
  obtain ⟨cs, hh, hs, _⟩ := h.1 g zero t hg h0
  rcases cs with ⟨l⟩
  have hl : l.length = 1 := by simpa [hz] using hs
  obtain ⟨x, rfl⟩ := List.length_eq_one_iff.1 hl
  have hx : x = .int .i64 m := by simpa [World.cell?, hh] using hm
  subst hx
  exact ⟨by simp, _, t, hh, ⟨m, rfl⟩⟩

/-- The wrap, with the world's shape and a fact of one's own. -/
theorem returns_shaped {a : Assume} {C : Checked} {os : Os} {f : FuncId} {fn : Func} {s : ChangeSpec} {conds : List PathCond} {apart fresh handsOn again : Bool} {X : World → Array Value → Prop}
    (hX : ∀ (w w' : World) (args : Array Value), w.heap = w'.heap → X w args → X w' args)
    (own : ownKnob C.prog.godebug = none) (started : os.Started) (noInit : C.prog.inits.idxOf? f = none) (hfn : C.prog.funcs[f]? = some fn)
    (witness : ∃ (w : World) (tape : Tape) (i : Input), w.os = os ∧ (w.forCall tape i).Shaped C.prog ∧ i.vars = [] ∧ Input.okWide C.prog (w.forCall tape i) .any w.heap.size f i ∧
      ((s.pre enc C.prog fn conds apart (w.forCall tape i).memory i.args ∧ X (w.forCall tape i).memory i.args) ∧ sizedMet enc C.prog fn (OpenSpec.ofChange s) apart (w.forCall tape i).memory i.args) ∧ a.holds C.prog (lone (Frame.enter C.prog f i.args .normal) [] (w.forCall tape i)))
    (contract : ∀ (W : World) (base : Nat) (args : Array Value) (ds gs : List (DataW H)) (before : List MemPlace),
      (∀ (j : Nat) t v, fn.params[j]? = some t → args[j]? = some v → Value.okWide C.prog W .any base t v) →
      DataW.Whole enc C.prog fn.params.toList s.vars apart W args.toList ds gs before →
      conds.all (PathCond.test C.prog ⟨fn.params.toList, ds, s.plain.varTypes C.prog, gs⟩) = true →
      (DataW.weightsEach C.prog (fn.params.toList ++ s.plain.varTypes C.prog) (ds ++ gs)).all (· ≤ reachBytes) = true → X W args → W.ShapedOpen C.prog →
      Calls C.prog f args W fun e W' => ∃ v, e = .returned v ∧ s.post enc C.prog fn apart fresh handsOn again W args v W') :
    ReturnsInHanded a C os f .any (fun w args => (s.pre enc C.prog fn conds apart w args ∧ X w args) ∧ sizedMet enc C.prog fn (OpenSpec.ofChange s) apart w args) (s.post enc C.prog fn apart fresh handsOn again) := by
  refine returnsInHanded_of_calls own started noInit witness ?_
  intro w tape i _ hsh _ hok hpre _
  obtain ⟨_, _, _, fn', hfn', _, _, _, _, hval⟩ := hok
  obtain rfl : fn' = fn := Option.some.inj (hfn'.symm.trans hfn)
  obtain ⟨⟨⟨ds, gs, before, hw, hc⟩, hx⟩, hz⟩ := hpre
  refine (contract (w.forCall tape i) w.heap.size i.args ds gs before hval (DataW.Whole.of_heap (w' := w.forCall tape i) (by rfl) hw) hc (hz.weights hw) (hX _ _ _ (by rfl) hx) hsh).mono fun e W' he => ?_
  obtain ⟨v, rfl, hp⟩ := he
  exact ChangeSpec.post_blind hp
end
end Go.Proofs.YtolgjekokdimoaaGreatDoor
end

