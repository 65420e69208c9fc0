/-
  Part 7 of the proof of FnExactReadLine: a verification-condition generator over the program and the contracts of its functions, in the order of their use.
  Conditions: none.
-/
import Derived.Test.YtolgjekokdimoaaDoorM6
import Derived.Lib.ItoaNum
import Derived.Lib.AtoiAll
import Derived.Lib.AtoiErrMem
import Derived.Lib.ItoaLen
import Derived.Lib.AtoiAllCases
import Derived.ProofKit
import Derived.OpenShut
import Derived.SizedLaws
import Derived.ReadAgain
import Derived.Lib.LaidTab
import Derived.Handed
import Derived.Shelf.Vars
set_option linter.unusedVariables false
set_option linter.unusedSimpArgs false
set_option linter.unusedSectionVars false

section
namespace Go.Proofs.YtolgjekokdimoaaDoor
variable [LaidG]
set_option maxRecDepth 100000
set_option linter.unusedSimpArgs false

def okBody (k p n e : Int) (r : Bool) (nm d : List UInt8) : Bool :=
  if k = 1 then wordB nm && p == 0 && n == 0 && e == 0 && !r && d == []
  else if k = 2 then inB p 1 1000 && n == 0 && e == 0 && nm == [] && d == []
  else if k = 3 then inB p 1 1000 && n == 0 && e == 0 && !r && nm == [] && d == []
  else if k = 4 then inB p 1 1000 && inB n (-100) 100 && e == 0 && !r && nm == [] && d == []
  else if k = 5 then inB p 1 1000 && n == 0 && inB e 1 60000 && !r && nm == [] && inB d.length 1 200
  else if k = 6 then inB p 1 1000 && inB n 0 200 && e == 0 && !r && nm == [] && d == []
  else if k = 7 then sizeB n e && p == 0 && !r && nm == [] && d == []
  else if k = 8 then wordB nm && wordB d && p == 0 && n == 0 && e == 0 && !r
  else false
/-- A valid command. -/
def okCmd (k cl s p n e : Int) (r : Bool) (nm d : List UInt8) : Bool := inB cl 0 200 && inB s 1 60000 && okBody k p n e r nm d
def c_isPaneId : FSpec := ⟨[(.rd, .int .i64)], [.bool], true, fun _ => True, fun ps => [.bool (inB (nth ps 0).I 1 1000)], fun _ => []⟩
theorem k_isPaneId : FnOk Tryd.prog 82 c_isPaneId := by
  refine fn_mk [0, 2] [.tmp 2] (env_cons (cs := []) k_within (env_nil (tyTab_ok []))) mixed Tryd.func82 rfl (by decide) rfl (by decide) rfl ?_
  intro ps hT hpre W hW
  simp only [c_isPaneId, TyA, Ty, Tys] at hT hpre
  obtain ⟨_, _, rfl, ⟨n, rfl, hn⟩, rfl⟩ := hT
  refine hW.vc [] _ _ ?_
  simp [-List.getD_eq_getElem?_getD, c_isPaneId, c_within]
def c_isCommand : FSpec := ⟨[(.rd, .agg [.int .i64, .int .i64, .int .i64, .int .i64, .int .i64, .int .i64, .bool, .str, .str])], [.bool], true, fun _ => True, fun ps => [.bool (okCmd (nth (nth ps 0).A 0).I (nth (nth ps 0).A 1).I (nth (nth ps 0).A 2).I (nth (nth ps 0).A 3).I (nth (nth ps 0).A 4).I (nth (nth ps 0).A 5).I (nth (nth ps 0).A 6).B (nth (nth ps 0).A 7).S (nth (nth ps 0).A 8).S)], fun _ => []⟩
theorem k_isCommand : FnOk Tryd.prog 62 c_isCommand := by
  refine fn_mk [0, 1, 2, 3, 4, 20] [.tmp 2] (env_cons (cs := []) k_isSize (env_cons (cs := []) k_isPaneId (env_cons (cs := []) k_isWindowName (env_cons (cs := []) k_within (env_cons (cs := []) k_isClientId (env_nil (tyTab_ok []))))))) mixed Tryd.func62 rfl (by decide) rfl (by decide) rfl ?_
  intro ps hT hpre W hW
  simp only [c_isCommand, TyA, Ty, Tys] at hT hpre
  obtain ⟨_, _, rfl, ⟨_, rfl, _, _, rfl, ⟨k, rfl, hk⟩, _, _, rfl, ⟨cl, rfl, hcl⟩, _, _, rfl, ⟨s, rfl, hs⟩, _, _, rfl, ⟨p, rfl, hp⟩, _, _, rfl, ⟨n, rfl, hn⟩, _, _, rfl, ⟨e, rfl, he⟩, _, _, rfl, ⟨r, rfl⟩, _, _, rfl, ⟨nm, rfl, hnm⟩, _, _, rfl, ⟨d, rfl, hd⟩, rfl⟩, rfl⟩ := hT
  refine hW.vc [] _ _ ?_
  simp [-List.getD_eq_getElem?_getD, c_isCommand, c_isClientId, c_within, c_isWindowName, c_isPaneId, c_isSize]
  refine ⟨fun h => by rcases h with h | h <;> simp [okCmd, h], fun h1 h2 => ?_⟩
  have hok : okCmd k cl s p n e r nm d = okBody k p n e r nm d := by simp [okCmd, h1, h2]
  rw [hok]
  refine ⟨fun q => ?_, fun q1 => ⟨fun q => ?_, fun q2 => ⟨fun q => ?_, fun q3 => ⟨fun q => ?_, fun q4 => ⟨fun q => ?_, fun q5 => ⟨fun q => ?_, fun q6 => ⟨fun q => ?_, fun q7 => ⟨fun q => ?_, fun q8 => ?_⟩⟩⟩⟩⟩⟩⟩⟩
  · subst q; exact ⟨fun a => ⟨a, by decide +kernel⟩, by simp [okBody]; ac_rfl⟩
  · subst q; exact ⟨fun a => ⟨a, by decide +kernel⟩, by simp [okBody]; ac_rfl⟩
  · subst q; exact ⟨fun a => ⟨a, by decide +kernel⟩, by simp [okBody]; ac_rfl⟩
  · subst q; exact ⟨fun a b => ⟨⟨a, b⟩, by decide +kernel⟩, by simp [okBody]; ac_rfl⟩
  · subst q; exact fun _ => ⟨fun a b c => ⟨⟨⟨a, b⟩, c⟩, by decide +kernel⟩, by simp [okBody]; ac_rfl⟩
  · subst q; exact ⟨fun a b => ⟨⟨a, b⟩, by decide +kernel⟩, by simp [okBody]; ac_rfl⟩
  · subst q; exact ⟨fun a => ⟨a, by decide +kernel⟩, by simp [okBody]; ac_rfl⟩
  · subst q; exact ⟨fun a b => ⟨⟨a, b⟩, by decide +kernel⟩, by simp [okBody]; ac_rfl⟩
  · simp [okBody, q1, q2, q3, q4, q5, q6, q7, q8]
def c_sCommandOK : FSpec := c_isCommand
theorem k_sCommandOK : FnOk Tryd.prog 59 c_sCommandOK := by
  refine fn_mk [0, 1, 2, 3, 4, 83] [.tmp 2] (env_cons (cs := []) k_sNameOK (env_cons (cs := []) k_l01In (env_nil (tyTab_ok [])))) mixed Tryd.func59 rfl (by decide) rfl (by decide) rfl ?_
  intro ps hT hpre W hW
  simp only [c_sCommandOK, TyA, Ty, Tys] at hT hpre
  simp only [c_isCommand, TyA, Ty, Tys] at hT
  obtain ⟨_, _, rfl, ⟨_, rfl, _, _, rfl, ⟨k, rfl, hk⟩, _, _, rfl, ⟨cl, rfl, hcl⟩, _, _, rfl, ⟨s, rfl, hs⟩, _, _, rfl, ⟨p, rfl, hp⟩, _, _, rfl, ⟨n, rfl, hn⟩, _, _, rfl, ⟨e, rfl, he⟩, _, _, rfl, ⟨r, rfl⟩, _, _, rfl, ⟨nm, rfl, hnm⟩, _, _, rfl, ⟨d, rfl, hd⟩, rfl⟩, rfl⟩ := hT
  refine hW.vc [] _ _ ?_
  simp [-List.getD_eq_getElem?_getD, c_sCommandOK, c_l01In, c_sNameOK, c_isCommand, c_within, c_isName, c_within, c_isName]
  have hnl : nm.length ≤ 140737488355328 := hnm
  have hdl : d.length ≤ 140737488355328 := hd
  refine ⟨fun h => ?_, fun h1 h2 h3 => ?_⟩
  · rcases h with (h | h) | h
    · have hb : okBody k p n e r nm d = false := by
        have : ¬ (1 ≤ k ∧ k ≤ 8) := by simpa [inB] using h
        unfold okBody
        rw [if_neg (by omega), if_neg (by omega), if_neg (by omega), if_neg (by omega), if_neg (by omega), if_neg (by omega), if_neg (by omega), if_neg (by omega)]
      simp [okCmd, hb]
    · simp [okCmd, h]
    · simp [okCmd, h]
  · have hok : okCmd k cl s p n e r nm d = okBody k p n e r nm d := by simp [okCmd, h2, h3]
    rw [hok]
    have hk : k = 1 ∨ k = 2 ∨ k = 3 ∨ k = 4 ∨ k = 5 ∨ k = 6 ∨ k = 7 ∨ k = 8 := by simp [inB] at h1; omega
    have hp0 : inB p 1 1000 = true → ¬ p = 0 := fun h e => by subst e; exact absurd h (by decide)
    have hn0 : nameB nm = true → ¬ nm = [] := fun h e => by subst e; exact absurd h (by decide)
    have hsz : sizeB n e = (inB n 2 24 && inB e 2 10) := rfl
    rcases hk with rfl | rfl | rfl | rfl | rfl | rfl | rfl | rfl
    all_goals simp [okBody, wordB, hnl, hdl, hsz]
    all_goals clear hW
    all_goals generalize inB p 1 1000 = b1 at *
    all_goals generalize nameB nm = b2 at *
    all_goals generalize inB n 2 24 = b3 at *
    all_goals generalize inB e 2 10 = b4 at *
    all_goals generalize inB n (-100) 100 = b5 at *
    all_goals generalize inB n 0 200 = b6 at *
    all_goals generalize inB e 1 60000 = b7 at *
    all_goals generalize inB (d.length : Int) 1 200 = b8 at *
    all_goals generalize nameB d = b9 at *
    all_goals generalize d.isEmpty = b10 at *
    all_goals repeat' apply And.intro
    all_goals intros
    all_goals clear hok h1 h2 h3 hsz hnl hdl hnm hd
    all_goals try (simp_all; done)
    all_goals grind
def c_eqCommand : FSpec := ⟨[(.rd, .agg [.int .i64, .int .i64, .int .i64, .int .i64, .int .i64, .int .i64, .bool, .str, .str]), (.rd, .agg [.int .i64, .int .i64, .int .i64, .int .i64, .int .i64, .int .i64, .bool, .str, .str])], [.bool], true, fun _ => True, fun ps => [.bool ((nth (nth ps 0).A 0).I == (nth (nth ps 1).A 0).I && (nth (nth ps 0).A 1).I == (nth (nth ps 1).A 1).I && (nth (nth ps 0).A 2).I == (nth (nth ps 1).A 2).I && (nth (nth ps 0).A 3).I == (nth (nth ps 1).A 3).I && (nth (nth ps 0).A 4).I == (nth (nth ps 1).A 4).I && (nth (nth ps 0).A 5).I == (nth (nth ps 1).A 5).I && (nth (nth ps 0).A 6).B == (nth (nth ps 1).A 6).B && (nth (nth ps 0).A 7).S == (nth (nth ps 1).A 7).S && (nth (nth ps 0).A 8).S == (nth (nth ps 1).A 8).S)], fun _ => []⟩
theorem k_eqCommand : FnOk Tryd.prog 20 c_eqCommand := by
  refine fn_mk [0, 1, 2, 3, 4] [.tmp 4] (env_nil (tyTab_ok [])) mixed Tryd.func20 rfl (by decide) rfl (by decide) rfl ?_
  intro ps hT hpre W hW
  simp only [c_eqCommand, TyA, Ty, Tys] at hT hpre
  obtain ⟨_, _, rfl, ⟨_, rfl, _, _, rfl, ⟨k, rfl, hk⟩, _, _, rfl, ⟨cl, rfl, hcl⟩, _, _, rfl, ⟨s, rfl, hs⟩, _, _, rfl, ⟨p, rfl, hp⟩, _, _, rfl, ⟨n, rfl, hn⟩, _, _, rfl, ⟨e, rfl, he⟩, _, _, rfl, ⟨r, rfl⟩, _, _, rfl, ⟨nm, rfl, hnm⟩, _, _, rfl, ⟨d, rfl, hd⟩, rfl⟩, _, _, rfl, ⟨_, rfl, _, _, rfl, ⟨k', rfl, hk'⟩, _, _, rfl, ⟨cl', rfl, hcl'⟩, _, _, rfl, ⟨s', rfl, hs'⟩, _, _, rfl, ⟨p', rfl, hp'⟩, _, _, rfl, ⟨n', rfl, hn'⟩, _, _, rfl, ⟨e', rfl, he'⟩, _, _, rfl, ⟨r', rfl⟩, _, _, rfl, ⟨nm', rfl, hnm'⟩, _, _, rfl, ⟨d', rfl, hd'⟩, rfl⟩, rfl⟩ := hT
  refine hW.vc [] _ _ ?_
  simp [-List.getD_eq_getElem?_getD, c_eqCommand]
  exact ⟨fun q1 => by simp [q1], fun q1 => ⟨fun q2 => by simp [q2], fun q2 => ⟨fun q3 => by simp [q3], fun q3 => ⟨fun q4 => by simp [q4], fun q4 => ⟨fun q5 => by simp [q5], fun q5 => ⟨fun q6 => by simp [q6], fun q6 => ⟨fun q7 => by simp [q7], fun q7 => ⟨fun q8 => by simp [q8], fun q8 => ⟨fun q9 => by simp [q9], fun q9 => by simp [q1, q2, q3, q4, q5, q6, q7, q8, q9]⟩⟩⟩⟩⟩⟩⟩⟩⟩

end Go.Proofs.YtolgjekokdimoaaDoor
end

section
namespace Go.Proofs.YtolgjekokdimoaaDoor
variable [LaidG]
variable [LaidN 5]
open Go.Shelf Go.RowKit
set_option maxRecDepth 100000
set_option linter.unusedVariables false

theorem ret_str {w : World} {l : List UInt8} (h : l.length ≤ LIM) : RetVs w [.str] [.str l] [.string ⟨l.toArray⟩] [] := by
  have h1 : RetV w .str (.str l) (.string ⟨l.toArray⟩) [] := by
    refine ⟨[[]], ?_, rfl⟩
    first
      | exact .str h .nil
      | (constructor <;> first | exact h | constructor)
  exact .cons h1 .nil
theorem repL (x : UInt8) : ∀ n, Lib.repeatL [x] n = List.replicate n x
  | 0 => rfl
  | n + 1 => by rw [Lib.repeatL, repL x n, List.replicate_succ]; rfl

def c_SRepeat : FSpec := ⟨[(.rd, .str), (.rd, .int .i64)], [.str], true, fun ps => (nth ps 0).S.length = 1 ∧ 0 ≤ (nth ps 1).I ∧ (nth ps 1).I ≤ 64, fun ps => [.str (List.replicate (nth ps 1).I.toNat ((nth ps 0).S.headD 0))], fun _ => []⟩
theorem meets_SRepeat : Meets Tryd.prog 104 c_SRepeat := by
  intro w ps vs fs fl ms hA hnd hdj hpre hgl
  clear hgl
  cases hA with
  | rd h1 hA => cases hA with
  | rd h2 hA =>
  cases hA
  obtain ⟨h1, rfl⟩ := h1
  obtain ⟨h2, rfl⟩ := h2
  cases h1 with | str hl h1 =>
  cases h1
  cases h2 with | int hk h2 =>
  cases h2
  rename_i l k
  obtain ⟨p1, p2, p3⟩ := hpre
  simp only [nth, List.getD_cons_zero, List.getD_cons_succ, PV.S, PV.I] at p1 p2 p3
  obtain ⟨n, rfl⟩ : ∃ n : Nat, k = n := ⟨k.toNat, by omega⟩
  obtain ⟨x, rfl⟩ : ∃ x, l = [x] := by
    match l, p1 with
    | [x], _ => exact ⟨x, rfl⟩
  refine (lay_strings_Repeat ⟨[x].toArray⟩ n w (by omega) (by show [x].toArray.size * n ≤ _; simp; omega)).mono ?_
  rintro e w' ⟨rfl, hB⟩
  refine ⟨[.string ⟨(List.replicate n x).toArray⟩], ?_, ?_, .inl ⟨rfl, [], [], ?_, .rd (.rd .nil), by simp, fun x hx => by simp at hx⟩⟩
  · show Ending.returned (.string ⟨(Lib.repeatL [x] n).toArray⟩) = _
    rw [repL]; rfl
  · exact ⟨hB.os, hB.tape, hB.output, hB.size, fun k hk _ => hB.block k hk⟩
  · show RetVs w' [.str] [.str (List.replicate ((n : Int).toNat) (List.headD [x] 0))] _ _
    rw [Int.toNat_natCast]
    exact ret_str (by simp [LIM]; omega)
theorem k_SRepeat : FnOk Tryd.prog 104 c_SRepeat := ⟨meets_SRepeat, _, Tryd.func104, rfl, by decide⟩

def decS (n : Int) : List UInt8 := Lib.itoa n
theorem decS_len {n : Int} (h : -1 ≤ n) (h2 : n < 1000) : (decS n).length ≤ 3 := by
  have : ∀ k : Fin 1001, (decS ((k.val : Int) - 1)).length ≤ 3 := by decide +kernel
  have := this ⟨(n + 1).toNat, by omega⟩
  rwa [show (((n + 1).toNat : Nat) : Int) - 1 = n by omega] at this
theorem lv_u64 {w : World} : ∀ {zs : List Int} {cs : List Value}, Lv w (flatT (.int .u64) zs.length) (flatP (zs.map (PV.int .u64))) cs [] → cs = zs.map fun z => Value.int .u64 z
  | [], cs, h => by
    cases h; rfl
  | z :: zs, cs, h => by
    have h' : Lv w (.int .u64 :: flatT (.int .u64) zs.length) (.int .u64 z :: flatP (zs.map (PV.int .u64))) cs [] := h
    cases h' with | int _ h2 => rw [lv_u64 h2]; rfl
theorem tab_is {w : World} {X : List Nat} (h : GlOk w X) : Lib.TabIs Tryd.prog w "internal/strconv.uint64pow10" .u64 Lib.pow10Tab := by
  obtain ⟨_, c, t, hc, _, _, hL⟩ := h.dat 5 (.int .u64) G5 rfl (by simp)
  have e : Tryd.prog.globalNamed "internal/strconv.uint64pow10" = some 5 := by kernel_rfl
  have hL' : Lv w (flatT (.int .u64) Lib.pow10Tab.length) (flatP (Lib.pow10Tab.map (PV.int .u64))) c.toList [] := hL
  have h3 := lv_u64 hL'
  unfold Lib.TabIs World.var?
  rw [e]
  show (match w.heap[5]? with | some (.cells cs _ _) => some cs | _ => none) = _
  rw [hc]
  show some c = _
  rw [← h3]
def c_Itoa : FSpec := ⟨[(.rd, .int .i64)], [.str], true, fun ps => -1 ≤ (nth ps 0).I ∧ (nth ps 0).I < 1000, fun ps => [.str (decS (nth ps 0).I)], fun _ => []⟩
theorem meets_Itoa : Meets Tryd.prog 72 c_Itoa := by
  intro w ps vs fs fl ms hA hnd hdj hpre hgl
  cases hA with
  | rd h1 hA =>
  cases hA
  obtain ⟨h1, rfl⟩ := h1
  cases h1 with | int hk h1 =>
  cases h1
  rename_i n
  obtain ⟨p1, p2⟩ := hpre
  simp only [nth, List.getD_cons_zero, PV.I] at p1 p2
  refine (lay_strconv_Itoa n (by omega) (by omega) w (tab_is hgl)).mono ?_
  rintro e w' ⟨rfl, k, os, rfl⟩
  refine ⟨[.string ⟨(decS n).toArray⟩], rfl, ?_, .inl ⟨rfl, [], [], ret_str (l := decS n) (Nat.le_trans (decS_len p1 p2) (by decide)), .rd .nil, by simp, fun x hx => by simp at hx⟩⟩
  refine ⟨rfl, rfl, rfl, ?_, fun j hj _ => ?_⟩
  · show w.heap.size ≤ (w.heap ++ os).size
    simp
  · show (w.heap ++ os)[j]? = w.heap[j]?
    rw [Array.getElem?_append_left hj]
theorem k_Itoa : FnOk Tryd.prog 72 c_Itoa := ⟨meets_Itoa, _, Tryd.func72, rfl, by decide⟩

end Go.Proofs.YtolgjekokdimoaaDoor
end

section
namespace Go.Proofs.YtolgjekokdimoaaDoor
open Go.Lib

/-- The reference's loop over digits. -/
def dgV (n : Nat) : List UInt8 → Option Nat
  | [] => some n
  | c :: l => if 48 ≤ c.toNat ∧ c.toNat ≤ 57 then dgV (n * 10 + (c.toNat - 48)) l else none
def magN (neg : Bool) (t : List UInt8) : Option Nat :=
  if t.length = 0 ∨ 18 < t.length ∨ (t.getD 0 0 = 48 ∧ (1 < t.length ∨ neg = true)) then none else dgV 0 t
/-- The number that a text is, of at most 18 digits and none needless ahead. -/
def numN (t : List UInt8) : Option Int :=
  if 0 < t.length ∧ t.getD 0 0 = 45 then (magN true (t.drop 1)).map fun m : Nat => -(m : Int) else (magN false t).map fun m : Nat => (m : Int)
/-- What is behind a '-'. -/
def trimN (t : List UInt8) : List UInt8 := if 0 < t.length ∧ t.getD 0 0 = 45 then t.drop 1 else t
/-- What the program makes of a text. -/
def intN (t : List UInt8) : Option Int :=
  match atoiAll t with
  | .ok n => if 18 < (trimN t).length ∨ itoa n ≠ t then none else some n
  | _ => none

theorem parse_dgV : ∀ (l : List UInt8) (acc : Nat), l.length ≤ 18 → acc < 10 ^ (18 - l.length) → parseUint10 acc l = match dgV acc l with | some m => .ok m | none => parseMag []
  | [], acc, _, _ => rfl
  | c :: l, acc, hl, ha => by
    simp only [List.length_cons] at hl ha
    have e : 10 ^ (18 - l.length) = 10 * 10 ^ (18 - (l.length + 1)) := by
      rw [show 18 - l.length = (18 - (l.length + 1)) + 1 by omega, Nat.pow_succ, Nat.mul_comm]
    have hp : 10 ^ (18 - (l.length + 1)) ≤ 10 ^ 17 := Nat.pow_le_pow_right (by decide) (by omega)
    have hp' : (10 : Nat) ^ 17 = 100000000000000000 := by decide
    rw [parseUint10, dgV]
    by_cases hc : 48 ≤ c.toNat ∧ c.toNat ≤ 57
    · rw [if_pos hc, if_pos hc, if_neg (by omega), if_neg (by omega)]
      exact parse_dgV l _ (by omega) (by omega)
    · simp only [if_neg hc]; first | done | rfl

/-- The digits' value. -/
def valF (n : Nat) (l : List UInt8) : Nat := l.foldl (fun a c => a * 10 + (c.toNat - 48)) n
theorem dgV_val : ∀ (l : List UInt8) (n m : Nat), dgV n l = some m → (∀ c ∈ l, 48 ≤ c.toNat ∧ c.toNat ≤ 57) ∧ m = valF n l
  | [], n, m, h => by simp only [dgV, Option.some.injEq] at h; subst h; exact ⟨by simp, rfl⟩
  | c :: l, n, m, h => by
    rw [dgV] at h
    by_cases hc : 48 ≤ c.toNat ∧ c.toNat ≤ 57
    · rw [if_pos hc] at h
      obtain ⟨h1, h2⟩ := dgV_val l _ m h
      refine ⟨fun x hx => ?_, h2⟩
      rcases List.mem_cons.1 hx with rfl | hx
      · exact hc
      · exact h1 x hx
    · rw [if_neg hc] at h; cases h
theorem val_dgV : ∀ (l : List UInt8) (n : Nat), (∀ c ∈ l, 48 ≤ c.toNat ∧ c.toNat ≤ 57) → dgV n l = some (valF n l)
  | [], n, _ => rfl
  | c :: l, n, h => by
    rw [dgV, if_pos (h c (by simp)), val_dgV l _ fun x hx => h x (by simp [hx])]; rfl
theorem valF_ge : ∀ (l : List UInt8) (n : Nat), n ≤ valF n l
  | [], n => Nat.le_refl _
  | c :: l, n => by
    have := valF_ge l (n * 10 + (c.toNat - 48))
    show n ≤ valF (n * 10 + (c.toNat - 48)) l
    omega
theorem byte_of (c : UInt8) (h : 48 ≤ c.toNat) : UInt8.ofNat (48 + (c.toNat - 48)) = c := by
  rw [show 48 + (c.toNat - 48) = c.toNat by omega]; simp
/-- Digits without a needless zero ahead are their number's numeral. -/
theorem dec_val : ∀ (k : Nat) (l : List UInt8), l.length = k → l ≠ [] → (∀ c ∈ l, 48 ≤ c.toNat ∧ c.toNat ≤ 57) → (l.getD 0 0 = 48 → l.length = 1) → decDigits (valF 0 l) = l
  | 0, l, hk, h0, _, _ => absurd (List.eq_nil_of_length_eq_zero hk) h0
  | k + 1, l, hk, h0, hd, hz => by
    obtain ⟨l', c, rfl⟩ : ∃ l' c, l = l' ++ [c] := ⟨l.dropLast, l.getLast h0, (List.dropLast_concat_getLast h0).symm⟩
    have hc := hd c (by simp)
    have hv : valF 0 (l' ++ [c]) = valF 0 l' * 10 + (c.toNat - 48) := by simp [valF]
    rw [hv]
    cases l' with
    | nil =>
      show decDigits (0 * 10 + (c.toNat - 48)) = [c]
      rw [Nat.zero_mul, Nat.zero_add, decDigits, dif_pos (by omega), byte_of c hc.1]
    | cons a l'' =>
      have ha := hd a (by simp)
      have hne : a.toNat ≠ 48 := fun e => by
        have e' : a = 48 := by apply UInt8.toNat_inj.1; rw [e]; rfl
        have := hz (by simp [e'])
        simp at this
      have h1 : 1 ≤ valF 0 (a :: l'') := by
        have := valF_ge l'' (0 * 10 + (a.toNat - 48))
        show 1 ≤ valF (0 * 10 + (a.toNat - 48)) l''
        omega
      have ih := dec_val k (a :: l'') (by simpa using hk) (by simp) (fun x hx => hd x (by rw [List.mem_append]; exact .inl hx)) fun e => absurd (by simp at e; rw [e]; rfl) hne
      rw [decDigits, dif_neg (by omega), show (valF 0 (a :: l'') * 10 + (c.toNat - 48)) / 10 = valF 0 (a :: l'') by omega, ih, show (valF 0 (a :: l'') * 10 + (c.toNat - 48)) % 10 = c.toNat - 48 by omega, byte_of c hc.1]
theorem dec_ne (u : Nat) : decDigits u ≠ [] := by
  rw [decDigits]; split <;> simp
theorem dec_head (u : Nat) : 1 ≤ u → (decDigits u).getD 0 0 ≠ 48 := by
  induction u using Nat.strongRecOn with
  | _ u ih =>
    intro h1
    by_cases h : u < 10
    · rw [decDigits, dif_pos h]
      intro e
      have e' : (UInt8.ofNat (48 + u)).toNat = 48 := by rw [List.getD_cons_zero] at e; rw [e]; rfl
      rw [UInt8.toNat_ofNat', Nat.mod_eq_of_lt (by omega)] at e'
      omega
    · rw [decDigits, dif_neg h]
      have := ih (u / 10) (by omega) (by omega)
      cases hd : decDigits (u / 10) with
      | nil => exact absurd hd (dec_ne _)
      | cons a r => rw [hd] at this; simpa using this
theorem dec_dig (u : Nat) : ∀ c ∈ decDigits u, 48 ≤ c.toNat ∧ c.toNat ≤ 57 := by
  induction u using Nat.strongRecOn with
  | _ u ih =>
    intro c hc
    by_cases h : u < 10
    · rw [decDigits, dif_pos h] at hc
      simp only [List.mem_singleton] at hc
      rw [hc, UInt8.toNat_ofNat', Nat.mod_eq_of_lt (by omega)]
      omega
    · rw [decDigits, dif_neg h, List.mem_append] at hc
      rcases hc with hc | hc
      · exact ih (u / 10) (by omega) c hc
      · simp only [List.mem_singleton] at hc
        rw [hc, UInt8.toNat_ofNat', Nat.mod_eq_of_lt (by omega)]
        omega
/-- A row of at most 18 digits: parsed and spelled again. -/
theorem mag_eq (neg : Bool) (r : List UInt8) (hr : r.length ≤ 18) :
    magN neg r = match parseMag r with | .ok u => if decDigits u = r ∧ (neg = true → 1 ≤ u) then some u else none | _ => none := by
  unfold parseMag magN
  by_cases h0 : r = []
  · subst h0; simp
  · have hl : r.length ≠ 0 := fun e => h0 (List.eq_nil_of_length_eq_zero e)
    rw [if_neg h0, parse_dgV r 0 hr (Nat.pow_pos (by decide))]
    cases hd : dgV 0 r with
    | none => split <;> rfl
    | some u =>
      obtain ⟨h1, h2⟩ := dgV_val r 0 u hd
      simp only
      by_cases hz : r.getD 0 0 = 48 ∧ (1 < r.length ∨ neg = true)
      · rw [if_pos (by simp only [hz]; simp), if_neg]
        rintro ⟨e1, e2⟩
        by_cases hu : 1 ≤ u
        · exact dec_head u hu (by rw [e1]; exact hz.1)
        · have hu0 : u = 0 := by omega
          rcases hz.2 with h3 | h3
          · rw [← e1, hu0] at h3; simp [decDigits] at h3
          · exact hu (e2 h3)
      · rw [if_neg (by rintro (q | q | q); exact hl q; omega; exact hz q), if_pos]
        refine ⟨?_, fun hn => ?_⟩
        · rw [h2]
          exact dec_val r.length r rfl h0 h1 fun e => by
            have : ¬ 1 < r.length := fun q => hz ⟨e, .inl q⟩
            omega
        · have hne : r.getD 0 0 ≠ 48 := fun e => hz ⟨e, .inr hn⟩
          cases r with
          | nil => exact absurd rfl h0
          | cons a l =>
            have ha := h1 a (by simp)
            have : a.toNat ≠ 48 := fun e => hne (by simp; apply UInt8.toNat_inj.1; rw [e]; rfl)
            have := valF_ge l (0 * 10 + (a.toNat - 48))
            rw [h2]
            show 1 ≤ valF (0 * 10 + (a.toNat - 48)) l
            omega
theorem parseMag_lt18 {r : List UInt8} {u : Nat} (h : decDigits u = r) (hr : r.length ≤ 18) : u < 1000000000000000000 := by
  have h1 := lt_pow_nDigits u
  rw [← decDigits_length, h] at h1
  have h2 : 10 ^ r.length ≤ 10 ^ 18 := Nat.pow_le_pow_right (by decide) hr
  have : (10 : Nat) ^ 18 = 1000000000000000000 := by decide
  omega
theorem itoa_m (u : Nat) : itoa (-(u : Int)) = if u = 0 then [48] else 45 :: decDigits u := by
  unfold itoa
  by_cases h : u = 0
  · subst h; simp [decDigits]
  · rw [if_pos (by omega), if_neg h]; simp
theorem itoa_p (u : Nat) : itoa (u : Int) = decDigits u := by
  unfold itoa; rw [if_neg (by omega)]; simp
/-- The program's reading and the reference's are one. -/
theorem int_num (t : List UInt8) : intN t = numN t := by
  cases t with
  | nil => simp [intN, numN, atoiAll, magN]
  | cons c r =>
    by_cases h45 : c = 45
    · subst h45
      have hN : numN (45 :: r) = (magN true r).map fun m : Nat => -(m : Int) := by simp [numN]
      have hT : trimN (45 :: r) = r := by simp [trimN]
      rw [hN, intN, hT]
      by_cases hr : r.length ≤ 18
      · rw [mag_eq true r hr]
        have hA : atoiAll (45 :: r) = match parseMag r with | .ok u => if 9223372036854775808 < u then .range else .ok (-(u : Int)) | .range => .range | _ => atoiAll [] := by
          simp [atoiAll]; cases parseMag r <;> rfl
        rw [hA]
        cases hp : parseMag r
        rotate_left 1
        · rfl
        · rfl
        · rename_i u
          dsimp only
          by_cases hd : decDigits u = r ∧ (true = true → 1 ≤ u)
          · have hlt := parseMag_lt18 hd.1 hr
            rw [if_pos hd, if_neg (by omega)]
            dsimp only
            rw [if_neg]
            · rfl
            · have := hd.2 rfl
              rw [itoa_m, if_neg (by omega), hd.1]
              simp; omega
          · rw [if_neg hd]
            by_cases hb : 9223372036854775808 < u
            · rw [if_pos hb]; rfl
            · rw [if_neg hb]
              dsimp only
              rw [if_pos]
              · rfl
              · right
                rw [itoa_m]
                by_cases hu : u = 0
                · rw [if_pos hu]; simp
                · rw [if_neg hu]
                  intro e
                  exact hd ⟨by simpa using e, fun _ => by omega⟩
      · have hm : magN true r = none := by rw [magN, if_pos (.inr (.inl (by omega)))]
        rw [hm]
        cases atoiAll (45 :: r) with
        | ok n => simp only; rw [if_pos (.inl (by omega))]; rfl
        | range => rfl
        | _ => rfl
    · have hN : numN (c :: r) = (magN false (c :: r)).map fun m : Nat => (m : Int) := by simp [numN, h45]
      have hT : trimN (c :: r) = c :: r := by simp [trimN, h45]
      have hn45 : c.toNat ≠ 45 := fun e => h45 (UInt8.toNat_inj.1 (by rw [e]; rfl))
      rw [hN, intN, hT]
      by_cases hr : (c :: r).length ≤ 18
      · rw [mag_eq false (c :: r) hr]
        by_cases h43 : c.toNat = 43
        · have hp : parseMag (c :: r) = parseMag [] := by
            unfold parseMag
            rw [if_neg (by simp), if_pos rfl, parseUint10, if_neg (by omega)]
          rw [hp]
          cases hA : atoiAll (c :: r) with
          | ok n =>
            dsimp only
            rw [if_pos]
            · rfl
            · right
              intro e
              have hc : c ∈ itoa n := by rw [e]; simp
              unfold itoa at hc e
              by_cases hneg : n < 0
              · rw [if_pos hneg] at e
                have e1 := (List.cons.inj e).1
                rw [← e1] at h43; exact absurd h43 (by decide)
              · rw [if_neg hneg] at hc
                have := dec_dig _ c hc
                omega
          | range => rfl
          | _ => rfl
        · have hA : atoiAll (c :: r) = match parseMag (c :: r) with | .ok u => if 9223372036854775808 ≤ u then .range else .ok (u : Int) | .range => .range | _ => atoiAll [] := by
            simp [atoiAll, hn45, h43]; cases parseMag (c :: r) <;> rfl
          rw [hA]
          cases hp : parseMag (c :: r)
          rotate_left 1
          · rfl
          · rfl
          · rename_i u
            dsimp only
            by_cases hd : decDigits u = c :: r
            · have hlt := parseMag_lt18 hd hr
              rw [if_neg (show ¬ 9223372036854775808 ≤ u by omega), if_pos (show decDigits u = c :: r ∧ (false = true → 1 ≤ u) from ⟨hd, by simp⟩)]
              dsimp only
              rw [if_neg]
              · rfl
              · rw [itoa_p, hd]; simp only [List.length_cons] at hr ⊢; simp; omega
            · rw [if_neg (show ¬ (decDigits u = c :: r ∧ (false = true → 1 ≤ u)) from fun q => hd q.1)]
              by_cases hb : 9223372036854775808 ≤ u
              · rw [if_pos hb]; rfl
              · rw [if_neg hb]
                dsimp only
                rw [if_pos]
                · rfl
                · right; rw [itoa_p]; exact hd
      · have hm : magN false (c :: r) = none := by rw [magN, if_pos (.inr (.inl (by omega)))]
        rw [hm]
        cases atoiAll (c :: r) with
        | ok n => simp only; rw [if_pos (.inl (by omega))]; rfl
        | range => rfl
        | _ => rfl

end Go.Proofs.YtolgjekokdimoaaDoor
end

section
namespace Go.Proofs.YtolgjekokdimoaaDoor
variable [LaidG]
variable [LaidN 5]
variable [LaidN 4]
variable [LaidN 2] [LaidN 3]
open Go.Shelf Go.RowKit
set_option maxRecDepth 100000
set_option linter.unusedSimpArgs false
set_option linter.unusedVariables false

def numV (t : List UInt8) : Int × Bool := match numN t with | some n => (n, true) | none => (0, false)
theorem numV_a {t : List UInt8} (h : numN t = none) : numV t = (0, false) := by rw [numV, h]
theorem numV_b {t : List UInt8} {n : Int} (h : numN t = some n) : numV t = (n, true) := by rw [numV, h]
def c_readInteger : FSpec := ⟨[(.rd, .str)], [.int .i64, .bool], true, fun ps => (nth ps 0).S.length ≤ 1048576, fun ps => [.int .i64 (numV (nth ps 0).S).1, .bool (numV (nth ps 0).S).2], fun _ => []⟩

theorem fr_below {w w' : World} (h : Below w.heap.size w w') : Fr w [] w' := ⟨h.os, h.tape, h.output, h.size, fun k hk _ => h.block k hk⟩
theorem call_atoi (l : List UInt8) (hl : l.length ≤ 1048576) (w : World) (X : List Nat) (hG : GlOk w X) :
    Calls Tryd.prog 80 #[.string ⟨l.toArray⟩] w fun e w' => ∃ v ev, e = .returned (.tuple #[.int .i64 v, ev]) ∧ Fr w [] w' ∧ (∀ n, Lib.atoiAll l = .ok n → v = n ∧ ev = .nilIface) ∧ ((∀ n, Lib.atoiAll l ≠ .ok n) → ∃ t a, ev = .iface t (.pointer (some ⟨a, 0, none⟩))) := by
  cases h : Lib.atoiAll l with
  | ok n =>
    refine (lay_strconv_Atoi_ok ⟨l.toArray⟩ (by show l.toArray.size ≤ _; simp; omega) n h w).mono ?_
    rintro e w' ⟨rfl, hw⟩
    refine ⟨n, .nilIface, rfl, ?_, fun m hm => ?_, fun hm => absurd rfl (hm n)⟩
    · rcases hw with rfl | ⟨t, rfl⟩
      · exact Fr.refl _ _
      · exact fr_below (Lib.bytesWorld_below w 5 t)
    · cases hm; exact ⟨rfl, rfl⟩
  | range =>
    obtain ⟨ev, h1, h2⟩ := cell_is hG (g := 3) (b := true) rfl (by simp)
    refine (lay_strconv_Atoi_range ⟨l.toArray⟩ (by show l.toArray.size ≤ _; simp; omega) h ev w h1 h2).mono ?_
    rintro e w' ⟨N, rfl, _, _, hB⟩
    exact ⟨_, _, rfl, fr_below hB, (fun m hm => by cases hm), fun _ => ⟨_, _, rfl⟩⟩
  | _ =>
    obtain ⟨ev, h1, h2⟩ := cell_is hG (g := 2) (b := true) rfl (by simp)
    refine (Any.strconv_Atoi_syntax lay_laysC172 ⟨l.toArray⟩ (by show l.toArray.size ≤ _; simp; omega) h ev w h1 h2).mono ?_
    rintro e w' ⟨N, rfl, _, _, hB⟩
    exact ⟨_, _, rfl, fr_below hB, (fun m hm => by cases hm), fun _ => ⟨_, _, rfl⟩⟩

set_option maxHeartbeats 1000000 in
theorem walk_bad (l : List UInt8) (hl : l.length ≤ 1048576) (w : World) (X : List Nat) (hG : GlOk w X) (hbad : ∀ n, Lib.atoiAll l ≠ .ok n) :
    Calls Tryd.prog 61 #[.string ⟨l.toArray⟩] w fun e w' => e = .returned (.tuple #[.int .i64 0, .bool false]) ∧ Fr w [] w' := by
  go_enter Tryd.func61, Tryd.ntmps61
  go_wp2_with (go_at_call 80; refine (call_atoi l hl w X hG).mono ?_)
  rintro e w1 ⟨v, ev, rfl, hF, _, h2⟩
  obtain ⟨t, a, rfl⟩ := h2 hbad
  go_wp2
  go_ret2
  exact ⟨rfl, hF⟩

theorem trim_lib (l : List UInt8) : Lib.trimPrefix l [45] = trimN l := by
  cases l with
  | nil => rfl
  | cons c r =>
    by_cases h : c = 45
    · subst h; simp [Lib.trimPrefix, Lib.hasPrefix, trimN]
    · have h' : ¬ (45 : UInt8) = c := fun e => h e.symm
      simp [Lib.trimPrefix, Lib.hasPrefix, trimN, h, h']
theorem call_trim (l : List UInt8) (w : World) :
    Calls Tryd.prog 81 #[.string ⟨l.toArray⟩, .string ⟨#[45]⟩] w fun e w' => ∃ t, t = trimN l ∧ e = .returned (.string ⟨t.toArray⟩) ∧ w' = w :=
  (lay_strings_TrimPrefix ⟨l.toArray⟩ ⟨#[45]⟩ w).mono fun e w' h => ⟨trimN l, rfl, by rw [h.1]; exact congrArg (fun x : List UInt8 => Ending.returned (.string ⟨x.toArray⟩)) (trim_lib l), h.2⟩
theorem call_itoa (n : Int) (h0 : -9223372036854775808 ≤ n) (h1 : n ≤ 9223372036854775807) (w : World) (X : List Nat) (hG : GlOk w X) :
    Calls Tryd.prog 72 #[.int .i64 n] w fun e w' => ∃ t, t = Lib.itoa n ∧ e = .returned (.string ⟨t.toArray⟩) ∧ Fr w [] w' := by
  refine (lay_strconv_Itoa n h0 h1 w (tab_is hG)).mono ?_
  rintro e w' ⟨rfl, k, os, rfl⟩
  exact ⟨_, rfl, rfl, rfl, rfl, rfl, by show w.heap.size ≤ (w.heap ++ os).size; simp, fun j hj _ => by show (w.heap ++ os)[j]? = w.heap[j]?; rw [Array.getElem?_append_left hj]⟩
set_option maxHeartbeats 1000000 in
theorem walk_good (l : List UInt8) (hl : l.length ≤ 1048576) (w : World) (X : List Nat) (hG : GlOk w X) (n : Int) (hok : Lib.atoiAll l = .ok n) (r : Int) (g : Bool) (hr : (r, g) = if 18 < (trimN l).length ∨ Lib.itoa n ≠ l then (0, false) else (n, true)) :
    Calls Tryd.prog 61 #[.string ⟨l.toArray⟩] w fun e w' => e = .returned (.tuple #[.int .i64 r, .bool g]) ∧ Fr w [] w' := by
  go_enter Tryd.func61, Tryd.ntmps61
  go_wp2_with (go_at_call 80; refine (call_atoi l hl w X hG).mono ?_)
  rintro e w1 ⟨v, ev, rfl, hF, h1, _⟩
  obtain ⟨rfl, rfl⟩ := h1 n hok
  go_wp2_with (go_at_call 81; refine (call_trim l w1).mono ?_)
  rintro e w2 ⟨t, ht, rfl, rfl⟩
  have hG2 : GlOk w2 [] := (hG.now (ms := []) (Fr.refl w X) (by simp)).now hF (by simp)
  go_wp2_with (go_at_call 72; refine (call_itoa v (Lib.atoiAll_bounds hok).1 (Lib.atoiAll_bounds hok).2 w2 [] hG2).mono ?_)
  · rintro e w3 ⟨s, hs, rfl, hF3⟩
    rename_i h18
    have hF4 : Fr w [] w3 := hF.trans hF3 (by simp) (by simp)
    go_wp2
    · go_ret2
      rename_i hb
      have hc : 18 < (trimN l).length ∨ Lib.itoa v ≠ l := by
        rcases hb with q | q
        · left; omega
        · right; intro e; rw [e] at q; simp at q
      rw [if_pos hc] at hr
      cases hr
      exact ⟨rfl, hF4⟩
    · go_ret2
      rename_i hb
      have hc : ¬ (18 < (trimN l).length ∨ Lib.itoa v ≠ l) := by
        rintro (q | q)
        · omega
        · exact q (by simpa using hb.2)
      rw [if_neg hc] at hr
      cases hr
      exact ⟨rfl, hF4⟩
  · go_ret2
    rename_i h18
    rw [if_pos (.inl (by omega))] at hr
    cases hr
    exact ⟨rfl, hF⟩
theorem meets_readInteger : Meets Tryd.prog 61 c_readInteger := by
  intro w ps vs fs fl ms hA hnd hdj hpre hgl
  cases hA with
  | rd h1 hA =>
  cases hA
  obtain ⟨h1, rfl⟩ := h1
  cases h1 with | str hl h1 =>
  cases h1
  rename_i l
  simp only [c_readInteger, nth, List.getD_cons_zero, PV.S] at hpre
  have hfin : ∀ (r : Int) (g : Bool), (r, g) = numV l → (Calls Tryd.prog 61 #[.string ⟨l.toArray⟩] w fun e w' => e = .returned (.tuple #[.int .i64 r, .bool g]) ∧ Fr w [] w') → inR .i64 r →
      Calls Tryd.prog 61 #[.string ⟨l.toArray⟩] w fun e w' => ∃ rvs, e = .returned (packR rvs) ∧ Done w c_readInteger [.str l] [.string ⟨l.toArray⟩] [] [] rvs w' := by
    intro r g hv hc hr
    refine hc.mono ?_
    rintro e w' ⟨rfl, hF⟩
    refine ⟨[.int .i64 r, .bool g], rfl, hF, .inl ⟨rfl, [], [], ?_, .rd .nil, by simp, fun x hx => by simp at hx⟩⟩
    have e1 : numV l = (r, g) := hv.symm
    show RetVs w' [.int .i64, .bool] [.int .i64 (numV l).1, .bool (numV l).2] _ _
    rw [e1]
    exact .cons (t := .int .i64) ⟨[[]], .int hr .nil, rfl⟩ (.cons (t := .bool) ⟨[[]], .bool .nil, rfl⟩ .nil)
  have hint := int_num l
  unfold intN at hint
  cases hok : Lib.atoiAll l with
  | ok n =>
    rw [hok] at hint
    dsimp only at hint
    have hb := Lib.atoiAll_bounds hok
    refine hfin (if 18 < (trimN l).length ∨ Lib.itoa n ≠ l then 0 else n) (decide (¬ (18 < (trimN l).length ∨ Lib.itoa n ≠ l))) ?_ (walk_good l hpre w _ hgl n hok _ _ ?_) ?_
    · unfold numV; rw [← hint]; split <;> rename_i q <;> simp [q]
    · split <;> rename_i q <;> simp [q]
    · split
      · decide
      · exact hb
  | range =>
    rw [hok] at hint
    refine hfin 0 false (by unfold numV; rw [← hint]) (walk_bad l hpre w _ hgl (by rw [hok]; intro n q; cases q)) (by decide)
  | _ =>
    rw [hok] at hint
    refine hfin 0 false (by unfold numV; rw [← hint]) (walk_bad l hpre w _ hgl (by rw [hok]; intro n q; cases q)) (by decide)
theorem k_readInteger : FnOk Tryd.prog 61 c_readInteger := ⟨meets_readInteger, _, Tryd.func61, rfl, by decide⟩

theorem b45 (x : UInt8) (k : Nat) (hk : k < 256) : ((x.toNat : Int) = k) ↔ x = UInt8.ofNat k := by
  constructor
  · intro h
    apply UInt8.toNat_inj.1
    rw [UInt8.toNat_ofNat', Nat.mod_eq_of_lt hk]; omega
  · intro h; rw [h, UInt8.toNat_ofNat', Nat.mod_eq_of_lt hk]
theorem num_none {t : List UInt8} (h : numN t = none) : (0 = (numV t).1 ∧ (numV t).2 = false) := by rw [numV_a h]; exact ⟨rfl, rfl⟩
theorem dgV_bad {u : List UInt8} {m i : Nat} (hi : i < u.length) (h : ¬ (48 ≤ (u.getD i 0).toNat ∧ (u.getD i 0).toNat ≤ 57)) : dgV m (u.drop i) = none := by
  rw [List.drop_eq_getElem_cons hi, dgV, if_neg]
  rw [List.getD_eq_getElem?_getD, List.getElem?_eq_getElem hi] at h
  exact h
theorem dgV_ok {u : List UInt8} {m i : Nat} (hi : i < u.length) (h : 48 ≤ (u.getD i 0).toNat ∧ (u.getD i 0).toNat ≤ 57) : dgV m (u.drop i) = dgV (m * 10 + ((u.getD i 0).toNat - 48)) (u.drop (i + 1)) := by
  have e : u.getD i 0 = u[i] := by rw [List.getD_eq_getElem?_getD, List.getElem?_eq_getElem hi]; rfl
  rw [e] at h ⊢
  rw [List.drop_eq_getElem_cons hi, dgV, if_pos h]
def c_l00Number : FSpec := c_readInteger
theorem k_l00Number : FnOk Tryd.prog 58 c_l00Number := by
  refine fn_mk [0, 2, 3, 4, 5, 6] [.tmp 2, .tmp 3] (env_nil (tyTab_ok [])) mixed Tryd.func58 rfl (by decide) rfl (by decide) rfl ?_
  intro ps hT hpre W hW
  simp only [c_l00Number, TyA, Ty, Tys] at hT hpre
  simp only [c_readInteger, TyA, Ty, Tys] at hT hpre
  obtain ⟨_, _, rfl, ⟨t, rfl, ht⟩, rfl⟩ := hT
  simp only [nth_zero, pv_S] at hpre
  refine hW.vc [] _ _ ?_
  simp [-List.getD_eq_getElem?_getD, c_l00Number, c_readInteger, c_readInteger]
  refine fun _ => ⟨fun h0 h45 => ?_, fun hns => ?_⟩
  · have e : List.take (t.length - 1) t.tail = t.drop 1 := by rw [List.take_of_length_le (by simp), List.drop_one]
    have hl : t.length - 1 = (t.drop 1).length := by simp
    have hN : numN t = (magN true (t.drop 1)).map fun m : Nat => -(m : Int) := by
      rw [numN, if_pos ⟨h0, (b45 _ 45 (by decide)).1 h45⟩]
    rw [e, hl]
    generalize t.drop 1 = u at *
    refine ⟨by omega, fun _ _ => ⟨fun a b => ⟨⟨a, b⟩, by omega⟩, fun _ => ⟨fun a b c => ⟨⟨⟨a, b⟩, c⟩, fun d => ⟨⟨⟨a, b⟩, c⟩, d⟩⟩, fun a b => ⟨⟨a, b⟩, fun c => ⟨⟨a, b⟩, c⟩⟩, fun h => ?_, fun a b c => ?_⟩⟩⟩
    · refine num_none ?_
      have hm : magN true u = none := by
        rw [magN, if_pos]
        rcases h with (h | h) | h
        · exact .inl h
        · exact .inr (.inl (by omega))
        · exact .inr (.inr ⟨(b45 _ 48 (by decide)).1 h, .inr rfl⟩)
      rw [hN, hm]; rfl
    · have hm : magN true u = dgV 0 u := by
        rw [magN, if_neg]
        rintro (q | q | q)
        · exact a q
        · omega
        · exact c ((b45 _ 48 (by decide)).2 q.1)
      rw [hm] at hN
      refine hW.loopS _ _ _ [.sl 5 .dp (.int .i64), .sl 6 .dp (.int .i64)] (fun ys => ∃ i m : Nat, ys = [.int .i64 m, .int .i64 i] ∧ i ≤ u.length ∧ dgV 0 u = dgV m (u.drop i) ∧ m < 10 ^ i) (fun ys => u.length - (nth ys 1).I.toNat) ?_ ?_
      · simp [-List.getD_eq_getElem?_getD, c_l00Number, c_readInteger]
        exact ⟨0, 0, ⟨rfl, rfl⟩, by omega, rfl, by decide⟩
      · rintro ys ⟨i, m, rfl, g1, g2, g3⟩
        refine hW.vc [] _ _ ?_
        simp [-List.getD_eq_getElem?_getD, c_l00Number, c_readInteger, c_readInteger]
        have hpi : 10 ^ i ≤ 10 ^ 18 := Nat.pow_le_pow_right (by decide) (by omega)
        have hp18 : (10 : Nat) ^ 18 = 1000000000000000000 := by decide
        rw [wrap64 (n := (i : Int) + 1) (by omega)]
        refine fun _ => ⟨fun h3 => ⟨h3, fun h => ⟨h, h3⟩, fun h => ?_, fun h4 h5 => ?_⟩, fun h3 => ?_⟩
        · refine num_none ?_
          rw [hN, g2, dgV_bad h3 (by omega)]; rfl
        · have hp17 : 10 ^ i ≤ 10 ^ 17 := Nat.pow_le_pow_right (by decide) (by omega)
          have hp17' : (10 : Nat) ^ 17 = 100000000000000000 := by decide
          rw [dgV_ok h3 (by omega)] at g2
          generalize (u.getD i 0).toNat = d at *
          rw [wrap64 (n := (m : Int) * 10) (by omega), wrap64 (n := (d : Int)) (by omega), wrap64 (n := (m : Int) * 10 + d) (by omega), wrap64 (n := (m : Int) * 10 + d - 48) (by omega)]
          refine ⟨h3, ⟨i + 1, m * 10 + (d - 48), ⟨by omega, by omega⟩, by omega, g2, ?_⟩, by omega⟩
          rw [Nat.pow_succ]; omega
        · rw [List.drop_eq_nil_of_le h3] at g2
          rw [g2] at hN
          have hV := numV_b (t := t) (n := -(m : Int)) (by rw [hN]; rfl)
          rw [hV]
          exact ⟨by rw [wrap64 (by omega)], rfl⟩
  · have hN : numN t = (magN false t).map fun m : Nat => (m : Int) := by
      rw [numN, if_neg]
      rintro ⟨q1, q2⟩
      exact hns q1 ((b45 _ 45 (by decide)).2 q2)
    have h00 : ¬ t = [] ↔ ¬ t.length = 0 := by rw [List.length_eq_zero_iff]
    rw [← List.length_eq_zero_iff]
    obtain ⟨u, hu⟩ : ∃ u, u = t := ⟨t, rfl⟩
    refine fun _ _ => ⟨fun a b => ⟨⟨a, b⟩, by omega⟩, fun _ => ⟨fun a b c => ⟨⟨⟨a, b⟩, c⟩, fun d => ⟨⟨⟨a, b⟩, c⟩, d⟩⟩, fun a b => ⟨⟨a, b⟩, fun c => ⟨⟨a, b⟩, c⟩⟩, fun h => ?_, fun a b c => ?_⟩⟩
    · refine num_none ?_
      have hm : magN false t = none := by
        rw [magN, if_pos]
        rcases h with (h | h) | h
        · exact .inl h
        · exact .inr (.inl (by omega))
        · exact .inr (.inr ⟨(b45 _ 48 (by decide)).1 h.1, .inl (by omega)⟩)
      rw [hN, hm]; rfl
    · have hm : magN false t = dgV 0 u := by
        rw [magN, if_neg, hu]
        rintro (q | q | q)
        · exact a q
        · omega
        · have := c ((b45 _ 48 (by decide)).2 q.1)
          rcases q.2 with q | q
          · omega
          · cases q
      rw [hm] at hN
      rw [← hu] at a b
      have ht : SV.str t = SV.str u := by rw [hu]
      rw [ht]
      refine hW.loopS _ _ _ [.sl 5 .dp (.int .i64), .sl 6 .dp (.int .i64)] (fun ys => ∃ i m : Nat, ys = [.int .i64 m, .int .i64 i] ∧ i ≤ u.length ∧ dgV 0 u = dgV m (u.drop i) ∧ m < 10 ^ i) (fun ys => u.length - (nth ys 1).I.toNat) ?_ ?_
      · simp [-List.getD_eq_getElem?_getD, c_l00Number, c_readInteger]
        exact ⟨0, 0, ⟨rfl, rfl⟩, by omega, rfl, by decide⟩
      · rintro ys ⟨i, m, rfl, g1, g2, g3⟩
        refine hW.vc [] _ _ ?_
        simp [-List.getD_eq_getElem?_getD, c_l00Number, c_readInteger, c_readInteger]
        have hpi : 10 ^ i ≤ 10 ^ 18 := Nat.pow_le_pow_right (by decide) (by omega)
        have hp18 : (10 : Nat) ^ 18 = 1000000000000000000 := by decide
        rw [wrap64 (n := (i : Int) + 1) (by omega)]
        refine fun _ => ⟨fun h3 => ⟨h3, fun h => ⟨h, h3⟩, fun h => ?_, fun h4 h5 => ?_⟩, fun h3 => ?_⟩
        · refine num_none ?_
          rw [hN, g2, dgV_bad h3 (by omega)]; rfl
        · have hp17 : 10 ^ i ≤ 10 ^ 17 := Nat.pow_le_pow_right (by decide) (by omega)
          have hp17' : (10 : Nat) ^ 17 = 100000000000000000 := by decide
          rw [dgV_ok h3 (by omega)] at g2
          generalize (u.getD i 0).toNat = d at *
          rw [wrap64 (n := (m : Int) * 10) (by omega), wrap64 (n := (d : Int)) (by omega), wrap64 (n := (m : Int) * 10 + d) (by omega), wrap64 (n := (m : Int) * 10 + d - 48) (by omega)]
          refine ⟨h3, ⟨i + 1, m * 10 + (d - 48), ⟨by omega, by omega⟩, by omega, g2, ?_⟩, by omega⟩
          rw [Nat.pow_succ]; omega
        · rw [List.drop_eq_nil_of_le h3] at g2
          rw [g2] at hN
          have hV := numV_b (t := t) (n := (m : Int)) (by rw [hN]; rfl)
          rw [hV]
          exact ⟨by first | rfl | (rw [wrap64 (by omega)]), rfl⟩

end Go.Proofs.YtolgjekokdimoaaDoor
end

section
namespace Go.Proofs.YtolgjekokdimoaaDoor
variable [LaidG]
variable [LaidN 5]
variable [LaidN 4]
variable [LaidN 2] [LaidN 3]
set_option maxRecDepth 100000
set_option linter.unusedSimpArgs false

def rowsW : List UInt8 := [114, 111, 119, 115]
def colsW : List UInt8 := [99, 111, 108, 117, 109, 110, 115]
def formK (w : List UInt8) : Int :=
  if w = [119, 105, 110, 100, 111, 119] then 1 else if w = [115, 112, 108, 105, 116] then 2 else if w = [107, 105, 108, 108] then 3 else if w = [109, 111, 118, 101] then 4
  else if w = [119, 114, 105, 116, 101] then 5 else if w = [111, 119, 110] then 6 else if w = [114, 101, 115, 105, 122, 101] then 7 else if w = [114, 101, 110, 97, 109, 101] then 8 else 0
def formF (w : List UInt8) : List UInt8 :=
  if w = [119, 105, 110, 100, 111, 119] then [119] else if w = [115, 112, 108, 105, 116] then [112, 104] else if w = [107, 105, 108, 108] then [112] else if w = [109, 111, 118, 101] then [112, 110]
  else if w = [119, 114, 105, 116, 101] then [112, 101, 100] else if w = [111, 119, 110] then [112, 110] else if w = [114, 101, 115, 105, 122, 101] then [110, 101] else if w = [114, 101, 110, 97, 109, 101] then [119, 100] else []
theorem formF_len (w : List UInt8) : (formF w).length ≤ 3 := by
  unfold formF
  split; · decide
  split; · decide
  split; · decide
  split; · decide
  split; · decide
  split; · decide
  split; · decide
  split <;> decide
def c_lineForm : FSpec := ⟨[(.rd, .str)], [.int .i64, .str], true, fun _ => True, fun ps => [.int .i64 (formK (nth ps 0).S), .str (formF (nth ps 0).S)], fun _ => []⟩
theorem k_lineForm : FnOk Tryd.prog 60 c_lineForm := by
  refine fn_mk [0, 2, 3, 4] [.tmp 2, .tmp 3] (env_nil (tyTab_ok [])) mixed Tryd.func60 rfl (by decide) rfl (by decide) rfl ?_
  intro ps hT hpre W hW
  simp only [c_lineForm, TyA, Ty, Tys] at hT hpre
  obtain ⟨_, _, rfl, ⟨w, rfl, hw⟩, rfl⟩ := hT
  refine hW.vc [] _ _ ?_
  simp [-List.getD_eq_getElem?_getD, c_lineForm]
  exact ⟨fun h => by simp [formK, formF, h], fun h1 => ⟨fun h => by simp [formK, formF, h], fun h2 => ⟨fun h => by simp [formK, formF, h], fun h3 => ⟨fun h => by simp [formK, formF, h], fun h4 => ⟨fun h => by simp [formK, formF, h], fun h5 => ⟨fun h => by simp [formK, formF, h], fun h6 => ⟨fun h => by simp [formK, formF, h], fun h7 => ⟨fun h => by simp [formK, formF, h], fun h8 => by simp [formK, formF, h1, h2, h3, h4, h5, h6, h7, h8]⟩⟩⟩⟩⟩⟩⟩⟩
/-- What a command's words tell. -/
structure CM where
  pane : Int
  n : Int
  epoch : Int
  rows : Bool
  name : List UInt8
  data : List UInt8
def CM.zero : CM := ⟨0, 0, 0, false, [], []⟩
def CM.pv (c : CM) (k s : Int) : PV := .agg [.int .i64 k, .int .i64 0, .int .i64 s, .int .i64 c.pane, .int .i64 c.n, .int .i64 c.epoch, .bool c.rows, .str c.name, .str c.data]
def stepC (f : UInt8) (w : List UInt8) (c : CM) : Option CM :=
  if f = 112 then (if (numV w).2 = true then some { c with pane := (numV w).1 } else none)
  else if f = 110 then (if (numV w).2 = true then some { c with n := (numV w).1 } else none)
  else if f = 101 then (if (numV w).2 = true then some { c with epoch := (numV w).1 } else none)
  else if f = 119 then some { c with name := w }
  else if f = 100 then some { c with data := w }
  else (if w = rowsW ∨ w = colsW then some { c with rows := decide (w = rowsW) } else none)
def foldC : List UInt8 → List PV → CM → Option CM
  | f :: fs, e :: es, c => match stepC f e.S c with | some c' => foldC fs es c' | none => none
  | _, _, c => some c
theorem fold_step {F : List UInt8} {ws : List PV} {i : Nat} {c : CM} (h1 : i < F.length) (h2 : i < ws.length) : foldC (F.drop i) (ws.drop i) c = match stepC (F.getD i 0) (nth ws i).S c with | some c' => foldC (F.drop (i + 1)) (ws.drop (i + 1)) c' | none => none := by
  have e1 : F.drop i = F.getD i 0 :: F.drop (i + 1) := by
    rw [List.drop_eq_getElem_cons h1]; simp [h1]
  rw [e1, drop_nth h2, foldC]
/-- The command of words. -/
def rlC (es : List PV) : Option CM :=
  if es.length = 0 then none else if formK (nth es 0).S = 0 ∨ es.length ≠ (formF (nth es 0).S).length + 1 then none else foldC (formF (nth es 0).S) (es.drop 1) CM.zero
def rlV (es : List PV) : CM := (rlC es).getD CM.zero
def rlK (es : List PV) : Int := cond (rlC es).isSome (formK (nth es 0).S) 0
def rlS (es : List PV) (s : Int) : Int := cond (rlC es).isSome s 0
def CM.ok (c : CM) (k s : Int) : Bool := okCmd k 0 s c.pane c.n c.epoch c.rows c.name c.data
def rlB (es : List PV) (s : Int) : Bool := (rlC es).isSome && (rlV es).ok (formK (nth es 0).S) s
theorem rl_none {es : List PV} (h : rlC es = none) (s : Int) : rlV es = CM.zero ∧ rlK es = 0 ∧ rlS es s = 0 ∧ rlB es s = false := by simp [rlV, rlK, rlS, rlB, h]
theorem rl_some {es : List PV} {c : CM} (h : rlC es = some c) (s : Int) : rlV es = c ∧ rlK es = formK (nth es 0).S ∧ rlS es s = s ∧ rlB es s = c.ok (formK (nth es 0).S) s := by simp [rlV, rlK, rlS, rlB, h]
def c_readLine : FSpec := ⟨[(.rd, .list .str), (.rd, .int .i64)], [.agg [.int .i64, .int .i64, .int .i64, .int .i64, .int .i64, .int .i64, .bool, .str, .str], .bool], true, fun ps => ∀ e ∈ (nth ps 0).L, e.S.length ≤ 1048576,
  fun ps => [.agg [.int .i64 (rlK (nth ps 0).L), .int .i64 0, .int .i64 (rlS (nth ps 0).L (nth ps 1).I), .int .i64 (rlV (nth ps 0).L).pane, .int .i64 (rlV (nth ps 0).L).n, .int .i64 (rlV (nth ps 0).L).epoch, .bool (rlV (nth ps 0).L).rows, .str (rlV (nth ps 0).L).name, .str (rlV (nth ps 0).L).data], .bool (rlB (nth ps 0).L (nth ps 1).I)], fun _ => []⟩
theorem k_readLine : FnOk Tryd.prog 39 c_readLine := by
  refine fn_mk [0, 1, 4, 5, 6, 7, 8, 9, 10, 11, 12, 39, 40, 41, 53] [.cell 4 43, .tmp 5] (env_cons (cs := []) k_isCommand (env_cons (cs := []) k_readInteger (env_cons (cs := []) k_lineForm (env_nil (tyTab_ok []))))) mixed Tryd.func39 rfl (by decide) rfl (by decide) rfl ?_
  intro ps hT hpre W hW
  simp only [c_readLine, TyA, Ty, Tys] at hT hpre
  obtain ⟨_, _, rfl, ⟨es, rfl, hes, tes⟩, _, _, rfl, ⟨s, rfl, hs⟩, rfl⟩ := hT
  simp only [nth_zero, nth_succ, pv_L] at hpre
  refine hW.vc [(26, [3], .take 0 <| .take 1 <| .alt 2 (.alt 3 (.alt 4 (.done) .stop) .stop) .stop)] _ _ ?_
  simp [-List.getD_eq_getElem?_getD, c_readLine, c_lineForm, c_readInteger, c_isCommand]
  have hz : rlC es = none → ∀ s, (0 = rlK es ∧ 0 = rlS es s ∧ 0 = (rlV es).pane ∧ 0 = (rlV es).n ∧ 0 = (rlV es).epoch ∧ (rlV es).rows = false ∧ (rlV es).name = [] ∧ (rlV es).data = []) ∧ rlB es s = false := by
    intro h s
    obtain ⟨e1, e2, e3, e4⟩ := rl_none h s
    rw [e1, e2, e3, e4]; simp [CM.zero]
  have hF := formF_len (nth es 0).S
  rw [wrap64 (n := ((formF (nth es 0).S).length : Int) + 1) (by omega)]
  refine fun _ => ⟨fun h => hz (by rw [rlC, if_pos (by rw [h]; rfl)]) s, fun hne => ?_⟩
  have hpos : 0 < es.length := List.length_pos_iff.2 hne
  refine ⟨hpos, fun _ _ _ => ⟨fun h => hz (by rw [rlC, if_neg (by omega), if_pos (by rcases h with h | h; exact .inl h; right; omega)]) s, fun hk hl => ⟨by omega, fun _ _ => ?_⟩⟩⟩
  have e : List.take (es.length - 1) es.tail = es.drop 1 := by rw [List.take_of_length_le (by simp), List.drop_one]
  have hw : es.length - 1 = (es.drop 1).length := by simp
  have hrl : rlC es = foldC (formF (nth es 0).S) (es.drop 1) CM.zero := by rw [rlC, if_neg (by omega), if_neg (by rintro (q | q); exact hk q; omega)]
  have hlen : (es.drop 1).length = (formF (nth es 0).S).length := by rw [List.length_drop]; omega
  have hps : ∀ x ∈ es.drop 1, x.S.length ≤ 1048576 := fun x hx => hpre x (List.mem_of_mem_drop hx)
  rw [e, hw]
  generalize es.drop 1 = ws at *
  generalize hk0 : formK (nth es 0).S = k at *
  generalize formF (nth es 0).S = F at *
  refine hW.loopS _ _ _ [.bx 8 [.int .i64, .int .i64, .int .i64, .int .i64, .int .i64, .int .i64, .bool, .str, .str], .sl 41 .dp (.int .i64)] (fun ys => ∃ (i : Nat) (c : CM), ys = [c.pv k s, .int .i64 i] ∧ i ≤ ws.length ∧ foldC F ws CM.zero = foldC (F.drop i) (ws.drop i) c) (fun ys => ws.length - (nth ys 1).I.toNat) ?_ ?_
  · simp [-List.getD_eq_getElem?_getD, c_readLine, c_lineForm, c_readInteger, c_isCommand, CM.pv]
    exact ⟨0, CM.zero, ⟨⟨rfl, rfl, rfl, rfl, rfl, rfl⟩, rfl⟩, by omega, rfl⟩
  · rintro ys ⟨i, c, rfl, g1, g2⟩
    refine hW.vc [(26, [3], .take 0 <| .take 1 <| .alt 2 (.alt 3 (.alt 4 (.done) .stop) .stop) .stop)] _ _ ?_
    simp [-List.getD_eq_getElem?_getD, c_readLine, c_lineForm, c_readInteger, c_isCommand, CM.pv]
    rw [wrap64 (n := (i : Int) + 1) (by omega)]
    have hst := fun (h3 : i < ws.length) => fold_step (c := c) (F := F) (ws := ws) (show i < F.length by omega) h3
    have bad : i < ws.length → stepC (F.getD i 0) (nth ws i).S c = none → rlC es = none := fun h3 h => by rw [hrl, g2, hst h3, h]
    have good : i < ws.length → ∀ c', stepC (F.getD i 0) (nth ws i).S c = some c' → foldC F ws CM.zero = foldC (F.drop (i + 1)) (ws.drop (i + 1)) c' := fun h3 c' h => by rw [g2, hst h3, h]
    refine ⟨fun h3 => ⟨h3, fun _ => ⟨hps _ (nth_mem h3), by omega, ?_⟩⟩, fun h3 => ⟨by decide +kernel, ?_⟩⟩
    · replace bad := bad h3
      replace good := good h3
      clear hst
      have hcv := fun k hk => b45 (F.getD i 0) k hk
      generalize F.getD i 0 = f at *
      generalize (nth ws i).S = w at *
      refine ⟨fun q => ?_, fun n1 => ⟨fun q => ?_, fun n2 => ⟨fun q => ?_, fun n3 => ⟨fun q => ?_, fun n4 => ⟨fun q => ?_, fun n5 => ⟨fun q1 q2 => ?_, fun q => ?_⟩⟩⟩⟩⟩⟩
      · have hf : f = 112 := (hcv 112 (by decide)).1 q
        exact ⟨fun v => hz (bad (by simp [stepC, hf, v])) s, fun v => ⟨⟨i + 1, { c with pane := (numV w).1 }, ⟨⟨rfl, rfl, rfl, rfl, rfl, rfl⟩, by omega⟩, by omega, good _ (by simp [stepC, hf, v])⟩, by omega⟩⟩
      · have hf : f = 110 := (hcv 110 (by decide)).1 q
        exact ⟨fun v => hz (bad (by simp [stepC, hf, v])) s, fun v => ⟨⟨i + 1, { c with n := (numV w).1 }, ⟨⟨rfl, rfl, rfl, rfl, rfl, rfl⟩, by omega⟩, by omega, good _ (by simp [stepC, hf, v])⟩, by omega⟩⟩
      · have hf : f = 101 := (hcv 101 (by decide)).1 q
        exact ⟨fun v => hz (bad (by simp [stepC, hf, v])) s, fun v => ⟨⟨i + 1, { c with epoch := (numV w).1 }, ⟨⟨rfl, rfl, rfl, rfl, rfl, rfl⟩, by omega⟩, by omega, good _ (by simp [stepC, hf, v])⟩, by omega⟩⟩
      · have hf : f = 119 := (hcv 119 (by decide)).1 q
        exact ⟨⟨i + 1, { c with name := w }, ⟨⟨rfl, rfl, rfl, rfl, rfl, rfl⟩, by omega⟩, by omega, good _ (by simp [stepC, hf])⟩, by omega⟩
      · have hf : f = 100 := (hcv 100 (by decide)).1 q
        exact ⟨⟨i + 1, { c with data := w }, ⟨⟨rfl, rfl, rfl, rfl, rfl, rfl⟩, by omega⟩, by omega, good _ (by simp [stepC, hf])⟩, by omega⟩
      all_goals
        have m1 : ¬ f = 112 := fun e => n1 ((hcv 112 (by decide)).2 e)
        have m2 : ¬ f = 110 := fun e => n2 ((hcv 110 (by decide)).2 e)
        have m3 : ¬ f = 101 := fun e => n3 ((hcv 101 (by decide)).2 e)
        have m4 : ¬ f = 119 := fun e => n4 ((hcv 119 (by decide)).2 e)
        have m5 : ¬ f = 100 := fun e => n5 ((hcv 100 (by decide)).2 e)
      · exact hz (bad (by simp [stepC, m1, m2, m3, m4, m5, rowsW, colsW, q1, q2])) s
      · have hq : w = rowsW ∨ w = colsW := by
          by_cases h : w = rowsW
          · exact .inl h
          · exact .inr (q h)
        exact ⟨⟨i + 1, { c with rows := decide (w = rowsW) }, ⟨⟨rfl, rfl, rfl, by rw [Bool.eq_iff_iff, beq_iff_eq, decide_eq_true_iff]; exact Iff.rfl, rfl, rfl⟩, by omega⟩, by omega, good _ (by simp [stepC, m1, m2, m3, m4, m5, hq])⟩, by omega⟩
    · rw [List.drop_eq_nil_of_le h3] at g2
      have hrc : rlC es = some c := by rw [hrl, g2]; cases F.drop i <;> rfl
      obtain ⟨e1, e2, e3, e4⟩ := rl_some hrc s
      rw [e1, e2, e3, e4, hk0]
      exact ⟨⟨rfl, rfl, rfl, rfl, rfl, rfl, rfl, rfl⟩, rfl⟩

end Go.Proofs.YtolgjekokdimoaaDoor
end

section
namespace Go.Proofs.YtolgjekokdimoaaDoor
variable [LaidG]
variable [LaidN 5]
variable [LaidN 4]
variable [LaidN 2] [LaidN 3]
set_option maxRecDepth 100000
set_option linter.unusedSimpArgs false

def pnN (w : List UInt8) : Int := cond (numV w).2 (numV w).1 (-1000000)
def wdP (es : List PV) (i : Nat) : List UInt8 := (nth es i).S
/-- What the reference makes of words. -/
def spC (es : List PV) : Option (Int × CM) :=
  if wdP es 0 = [119, 105, 110, 100, 111, 119] ∧ es.length = 2 then some (1, { CM.zero with name := wdP es 1 })
  else if wdP es 0 = [115, 112, 108, 105, 116] ∧ es.length = 3 ∧ (wdP es 2 = rowsW ∨ wdP es 2 = colsW) then some (2, { CM.zero with pane := pnN (wdP es 1), rows := decide (wdP es 2 = rowsW) })
  else if wdP es 0 = [107, 105, 108, 108] ∧ es.length = 2 then some (3, { CM.zero with pane := pnN (wdP es 1) })
  else if wdP es 0 = [109, 111, 118, 101] ∧ es.length = 3 then some (4, { CM.zero with pane := pnN (wdP es 1), n := pnN (wdP es 2) })
  else if wdP es 0 = [119, 114, 105, 116, 101] ∧ es.length = 4 then some (5, { CM.zero with pane := pnN (wdP es 1), epoch := pnN (wdP es 2), data := wdP es 3 })
  else if wdP es 0 = [111, 119, 110] ∧ es.length = 3 then some (6, { CM.zero with pane := pnN (wdP es 1), n := pnN (wdP es 2) })
  else if wdP es 0 = [114, 101, 115, 105, 122, 101] ∧ es.length = 3 then some (7, { CM.zero with n := pnN (wdP es 1), epoch := pnN (wdP es 2) })
  else if wdP es 0 = [114, 101, 110, 97, 109, 101] ∧ es.length = 3 then some (8, { CM.zero with name := wdP es 1, data := wdP es 2 })
  else none
def spV (es : List PV) : CM := ((spC es).getD (0, CM.zero)).2
def spK (es : List PV) : Int := ((spC es).getD (0, CM.zero)).1
def spS (es : List PV) (s : Int) : Int := cond (spC es).isSome s 0
def spB (es : List PV) (s : Int) : Bool := (spC es).isSome && (spV es).ok (spK es) s
theorem sp_none {es : List PV} (h : spC es = none) (s : Int) : spV es = CM.zero ∧ spK es = 0 ∧ spS es s = 0 ∧ spB es s = false := by simp [spV, spK, spS, spB, h]
theorem sp_some {es : List PV} {k : Int} {c : CM} (h : spC es = some (k, c)) (s : Int) : spV es = c ∧ spK es = k ∧ spS es s = s ∧ spB es s = c.ok k s := by simp [spV, spK, spS, spB, h]
def numbS (es : List PV) : List PV := es.map fun e => .int .i64 (pnN e.S)
def c_l16Read : FSpec := ⟨[(.rd, .list .str), (.rd, .int .i64)], [.agg [.int .i64, .int .i64, .int .i64, .int .i64, .int .i64, .int .i64, .bool, .str, .str], .bool], true, fun ps => 1 ≤ (nth ps 0).L.length ∧ (nth ps 0).L.length ≤ 1048576 ∧ ∀ e ∈ (nth ps 0).L, e.S.length ≤ 1048576,
  fun ps => [.agg [.int .i64 (spK (nth ps 0).L), .int .i64 0, .int .i64 (spS (nth ps 0).L (nth ps 1).I), .int .i64 (spV (nth ps 0).L).pane, .int .i64 (spV (nth ps 0).L).n, .int .i64 (spV (nth ps 0).L).epoch, .bool (spV (nth ps 0).L).rows, .str (spV (nth ps 0).L).name, .str (spV (nth ps 0).L).data], .bool (spB (nth ps 0).L (nth ps 1).I)], fun _ => []⟩
theorem k_l16Read : FnOk Tryd.prog 37 c_l16Read := by
  refine fn_mk [0, 1, 4, 5, 6, 7, 8, 9, 10] [.cell 4 43, .tmp 5] (env_cons (cs := []) k_sCommandOK (env_cons (cs := []) k_l00Number (env_nil (tyTab_ok [])))) mixed Tryd.func37 rfl (by decide) rfl (by decide) rfl ?_
  intro ps hT hpre W hW
  simp only [c_l16Read, TyA, Ty, Tys] at hT hpre
  obtain ⟨_, _, rfl, ⟨es, rfl, hes, tes⟩, _, _, rfl, ⟨s, rfl, hs⟩, rfl⟩ := hT
  simp only [nth_zero, nth_succ, pv_L] at hpre
  obtain ⟨p1, p2, p3⟩ := hpre
  refine hW.vc [(42, [3], .take 0 <| .take 1 <| .alt 2 (.alt 3 (.alt 4 (.done) .stop) .stop) .stop)] _ _ ?_
  simp [-List.getD_eq_getElem?_getD, c_l16Read, c_l00Number, c_sCommandOK, c_readInteger, c_isCommand, c_readInteger, c_isCommand]
  refine hW.loopS _ _ _ [.sl 7 .dp (.list (.int .i64)), .sl 8 .dp (.int .i64)] (fun ys => ∃ i : Nat, ys = [.list (numbS ((es.drop 1).take i)), .int .i64 (i + 1)] ∧ i + 1 ≤ es.length) (fun ys => es.length - (nth ys 1).I.toNat) ?_ ?_
  · simp [-List.getD_eq_getElem?_getD, c_l16Read, c_l00Number, c_sCommandOK, c_readInteger, c_isCommand]
    exact ⟨0, ⟨by simp [numbS], by omega⟩, by omega⟩
  · rintro ys ⟨i, rfl, g1⟩
    refine hW.vc [(42, [3], .take 0 <| .take 1 <| .alt 2 (.alt 3 (.alt 4 (.done) .stop) .stop) .stop)] _ _ ?_
    simp [-List.getD_eq_getElem?_getD, c_l16Read, c_l00Number, c_sCommandOK, c_readInteger, c_isCommand, c_readInteger, c_isCommand]
    have hnl : (numbS (es.tail.take i)).length = i := by simp [numbS]; omega
    rw [wrap64 (n := (i : Int) + 1 + 1) (by omega), hnl]
    have hget : i + 1 < es.length → es.tail.take (i + 1) = es.tail.take i ++ [nth es (i + 1)] := by
      intro h3
      rw [← List.drop_one, take_nth (by rw [List.length_drop]; omega)]
      congr 2
      rw [nth_eq (by rw [List.length_drop]; omega), nth_eq h3, List.getElem_drop]
      congr 1; omega
    refine fun _ => ⟨fun h3 => ⟨⟨by omega, h3⟩, by omega, fun _ => ⟨p3 _ (nth_mem (by omega)), fun v => ⟨by omega, fun _ => ⟨⟨i + 1, ⟨?_, by omega⟩, by omega⟩, by omega⟩⟩, fun v => ⟨by omega, fun _ => ⟨⟨i + 1, ⟨?_, by omega⟩, by omega⟩, by omega⟩⟩⟩⟩, fun h3 => ?_⟩
    · rw [hget (by omega)]; simp [numbS, pnN, v]
    · rw [hget (by omega)]; simp [numbS, pnN, v]
    · have hi : i = es.length - 1 := by omega
      have ht : es.tail.take i = es.tail := List.take_of_length_le (by simp; omega)
      rw [ht]
      have n0 : i = es.length - 1 := hi
      have n1 : 2 ≤ es.length → (nth (numbS es.tail) 0).I = pnN (nth es 1).S := by
        intro h
        match es, h with
        | a :: b :: r, _ => rfl
      have n2 : 3 ≤ es.length → (nth (numbS es.tail) 1).I = pnN (nth es 2).S := by
        intro h
        match es, h with
        | a :: b :: c :: r, _ => rfl
      clear hget hnl ht g1 h3
      by_cases hw_window : (nth es 0).S = [119, 105, 110, 100, 111, 119]
      · have hw := hw_window
        by_cases hl : es.length = 2
        · have hl' : (es.length : Int) = 2 := by omega
          have n1 := n1 (by omega)
          have hs : spC es = some (1, { CM.zero with name := wdP es 1 }) := by simp [spC, wdP, hw, hl]
          obtain ⟨e1, e2, e3, e4⟩ := sp_some hs s
          simp [hw, hl, hl', e1, e2, e3, e4, CM.zero, wdP, CM.ok, n0, n1]
          repeat' (first | apply And.intro | intro _)
          all_goals first | rfl | omega | assumption | decide +kernel | (simp_all; done)
        · have hl' : ¬ (es.length : Int) = 2 := by omega
          have hs : spC es = none := by simp [spC, wdP, hw, hl]
          obtain ⟨e1, e2, e3, e4⟩ := sp_none hs s
          simp [hw, hl, hl', e1, e2, e3, e4, CM.zero, wdP, CM.ok, n0]
          repeat' (first | apply And.intro | intro _)
          all_goals first | rfl | omega | assumption | decide +kernel | (simp_all; done)
      · skip
        by_cases hw_split : (nth es 0).S = [115, 112, 108, 105, 116]
        · have hw := hw_split
          by_cases hl : es.length = 3
          · have hl' : (es.length : Int) = 3 := by omega
            have n1 := n1 (by omega)
            have n2 := n2 (by omega)
            by_cases hr : (nth es 2).S = rowsW ∨ (nth es 2).S = colsW
            · have hs : spC es = some (2, { CM.zero with pane := pnN (wdP es 1), rows := decide (wdP es 2 = rowsW) }) := by simp [spC, wdP, hw, hl, hr]
              obtain ⟨e1, e2, e3, e4⟩ := sp_some hs s
              have hr' : (nth es 2).S = [114, 111, 119, 115] ∨ (nth es 2).S = [99, 111, 108, 117, 109, 110, 115] := hr
              have hb : ((nth es 2).S == [114, 111, 119, 115]) = decide ((nth es 2).S = rowsW) := by rw [Bool.eq_iff_iff, beq_iff_eq, decide_eq_true_iff]; exact Iff.rfl
              simp [hw, hl, hl', e1, e2, e3, e4, CM.zero, wdP, CM.ok, n0, n1, n2, hr', hb]
              repeat' (first | apply And.intro | intro _)
              all_goals first | rfl | omega | assumption | decide +kernel | (simp_all; done)
            · have hs : spC es = none := by simp [spC, wdP, hw, hl, hr]
              obtain ⟨e1, e2, e3, e4⟩ := sp_none hs s
              have hr1 : ¬ (nth es 2).S = [114, 111, 119, 115] := fun e => hr (.inl e)
              have hr2 : ¬ (nth es 2).S = [99, 111, 108, 117, 109, 110, 115] := fun e => hr (.inr e)
              simp [hw, hl, hl', e1, e2, e3, e4, CM.zero, wdP, CM.ok, n0, n1, n2, hr1, hr2]
              repeat' (first | apply And.intro | intro _)
              all_goals first | rfl | omega | assumption | decide +kernel | (simp_all; done)
          · have hl' : ¬ (es.length : Int) = 3 := by omega
            have hs : spC es = none := by simp [spC, wdP, hw, hl]
            obtain ⟨e1, e2, e3, e4⟩ := sp_none hs s
            simp [hw, hl, hl', e1, e2, e3, e4, CM.zero, wdP, CM.ok, n0]
            repeat' (first | apply And.intro | intro _)
            all_goals first | rfl | omega | assumption | decide +kernel | (simp_all; done)
        · skip
          by_cases hw_kill : (nth es 0).S = [107, 105, 108, 108]
          · have hw := hw_kill
            by_cases hl : es.length = 2
            · have hl' : (es.length : Int) = 2 := by omega
              have n1 := n1 (by omega)
              have hs : spC es = some (3, { CM.zero with pane := pnN (wdP es 1) }) := by simp [spC, wdP, hw, hl]
              obtain ⟨e1, e2, e3, e4⟩ := sp_some hs s
              simp [hw, hl, hl', e1, e2, e3, e4, CM.zero, wdP, CM.ok, n0, n1]
              repeat' (first | apply And.intro | intro _)
              all_goals first | rfl | omega | assumption | decide +kernel | (simp_all; done)
            · have hl' : ¬ (es.length : Int) = 2 := by omega
              have hs : spC es = none := by simp [spC, wdP, hw, hl]
              obtain ⟨e1, e2, e3, e4⟩ := sp_none hs s
              simp [hw, hl, hl', e1, e2, e3, e4, CM.zero, wdP, CM.ok, n0]
              repeat' (first | apply And.intro | intro _)
              all_goals first | rfl | omega | assumption | decide +kernel | (simp_all; done)
          · skip
            by_cases hw_move : (nth es 0).S = [109, 111, 118, 101]
            · have hw := hw_move
              by_cases hl : es.length = 3
              · have hl' : (es.length : Int) = 3 := by omega
                have n1 := n1 (by omega)
                have n2 := n2 (by omega)
                have hs : spC es = some (4, { CM.zero with pane := pnN (wdP es 1), n := pnN (wdP es 2) }) := by simp [spC, wdP, hw, hl]
                obtain ⟨e1, e2, e3, e4⟩ := sp_some hs s
                simp [hw, hl, hl', e1, e2, e3, e4, CM.zero, wdP, CM.ok, n0, n1, n2]
                repeat' (first | apply And.intro | intro _)
                all_goals first | rfl | omega | assumption | decide +kernel | (simp_all; done)
              · have hl' : ¬ (es.length : Int) = 3 := by omega
                have hs : spC es = none := by simp [spC, wdP, hw, hl]
                obtain ⟨e1, e2, e3, e4⟩ := sp_none hs s
                simp [hw, hl, hl', e1, e2, e3, e4, CM.zero, wdP, CM.ok, n0]
                repeat' (first | apply And.intro | intro _)
                all_goals first | rfl | omega | assumption | decide +kernel | (simp_all; done)
            · skip
              by_cases hw_write : (nth es 0).S = [119, 114, 105, 116, 101]
              · have hw := hw_write
                by_cases hl : es.length = 4
                · have hl' : (es.length : Int) = 4 := by omega
                  have n1 := n1 (by omega)
                  have n2 := n2 (by omega)
                  have hs : spC es = some (5, { CM.zero with pane := pnN (wdP es 1), epoch := pnN (wdP es 2), data := wdP es 3 }) := by simp [spC, wdP, hw, hl]
                  obtain ⟨e1, e2, e3, e4⟩ := sp_some hs s
                  simp [hw, hl, hl', e1, e2, e3, e4, CM.zero, wdP, CM.ok, n0, n1, n2]
                  repeat' (first | apply And.intro | intro _)
                  all_goals first | rfl | omega | assumption | decide +kernel | (simp_all; done)
                · have hl' : ¬ (es.length : Int) = 4 := by omega
                  have hs : spC es = none := by simp [spC, wdP, hw, hl]
                  obtain ⟨e1, e2, e3, e4⟩ := sp_none hs s
                  simp [hw, hl, hl', e1, e2, e3, e4, CM.zero, wdP, CM.ok, n0]
                  repeat' (first | apply And.intro | intro _)
                  all_goals first | rfl | omega | assumption | decide +kernel | (simp_all; done)
              · skip
                by_cases hw_own : (nth es 0).S = [111, 119, 110]
                · have hw := hw_own
                  by_cases hl : es.length = 3
                  · have hl' : (es.length : Int) = 3 := by omega
                    have n1 := n1 (by omega)
                    have n2 := n2 (by omega)
                    have hs : spC es = some (6, { CM.zero with pane := pnN (wdP es 1), n := pnN (wdP es 2) }) := by simp [spC, wdP, hw, hl]
                    obtain ⟨e1, e2, e3, e4⟩ := sp_some hs s
                    simp [hw, hl, hl', e1, e2, e3, e4, CM.zero, wdP, CM.ok, n0, n1, n2]
                    repeat' (first | apply And.intro | intro _)
                    all_goals first | rfl | omega | assumption | decide +kernel | (simp_all; done)
                  · have hl' : ¬ (es.length : Int) = 3 := by omega
                    have hs : spC es = none := by simp [spC, wdP, hw, hl]
                    obtain ⟨e1, e2, e3, e4⟩ := sp_none hs s
                    simp [hw, hl, hl', e1, e2, e3, e4, CM.zero, wdP, CM.ok, n0]
                    repeat' (first | apply And.intro | intro _)
                    all_goals first | rfl | omega | assumption | decide +kernel | (simp_all; done)
                · skip
                  by_cases hw_resize : (nth es 0).S = [114, 101, 115, 105, 122, 101]
                  · have hw := hw_resize
                    by_cases hl : es.length = 3
                    · have hl' : (es.length : Int) = 3 := by omega
                      have n1 := n1 (by omega)
                      have n2 := n2 (by omega)
                      have hs : spC es = some (7, { CM.zero with n := pnN (wdP es 1), epoch := pnN (wdP es 2) }) := by simp [spC, wdP, hw, hl]
                      obtain ⟨e1, e2, e3, e4⟩ := sp_some hs s
                      simp [hw, hl, hl', e1, e2, e3, e4, CM.zero, wdP, CM.ok, n0, n1, n2]
                      repeat' (first | apply And.intro | intro _)
                      all_goals first | rfl | omega | assumption | decide +kernel | (simp_all; done)
                    · have hl' : ¬ (es.length : Int) = 3 := by omega
                      have hs : spC es = none := by simp [spC, wdP, hw, hl]
                      obtain ⟨e1, e2, e3, e4⟩ := sp_none hs s
                      simp [hw, hl, hl', e1, e2, e3, e4, CM.zero, wdP, CM.ok, n0]
                      repeat' (first | apply And.intro | intro _)
                      all_goals first | rfl | omega | assumption | decide +kernel | (simp_all; done)
                  · skip
                    by_cases hw_rename : (nth es 0).S = [114, 101, 110, 97, 109, 101]
                    · have hw := hw_rename
                      by_cases hl : es.length = 3
                      · have hl' : (es.length : Int) = 3 := by omega
                        have n1 := n1 (by omega)
                        have n2 := n2 (by omega)
                        have hs : spC es = some (8, { CM.zero with name := wdP es 1, data := wdP es 2 }) := by simp [spC, wdP, hw, hl]
                        obtain ⟨e1, e2, e3, e4⟩ := sp_some hs s
                        simp [hw, hl, hl', e1, e2, e3, e4, CM.zero, wdP, CM.ok, n0, n1, n2]
                        repeat' (first | apply And.intro | intro _)
                        all_goals first | rfl | omega | assumption | decide +kernel | (simp_all; done)
                      · have hl' : ¬ (es.length : Int) = 3 := by omega
                        have hs : spC es = none := by simp [spC, wdP, hw, hl]
                        obtain ⟨e1, e2, e3, e4⟩ := sp_none hs s
                        simp [hw, hl, hl', e1, e2, e3, e4, CM.zero, wdP, CM.ok, n0]
                        repeat' (first | apply And.intro | intro _)
                        all_goals first | rfl | omega | assumption | decide +kernel | (simp_all; done)
                    · skip
                      have hs : spC es = none := by simp [spC, wdP, hw_window, hw_split, hw_kill, hw_move, hw_write, hw_own, hw_resize, hw_rename]
                      obtain ⟨e1, e2, e3, e4⟩ := sp_none hs s
                      simp [hw_window, hw_split, hw_kill, hw_move, hw_write, hw_own, hw_resize, hw_rename, e1, e2, e3, e4, CM.zero]
                      repeat' (first | apply And.intro | intro _)
                      all_goals first | rfl | omega | assumption | decide +kernel | (simp_all; done)

end Go.Proofs.YtolgjekokdimoaaDoor
end

section
namespace Go.Proofs.YtolgjekokdimoaaDoor
variable [LaidG]
set_option maxRecDepth 100000
set_option linter.unusedSimpArgs false

def longN (n : Int) : Bool := decide (n > 65536)
def c_isLong1 : FSpec := ⟨[(.rd, .int .i64)], [.bool], true, fun _ => True, fun ps => [.bool (longN (nth ps 0).I)], fun _ => []⟩
theorem k_isLong1 : FnOk Tryd.prog 45 c_isLong1 := by
  refine fn_mk [0, 2] [.tmp 2] (env_nil (tyTab_ok [])) mixed Tryd.func45 rfl (by decide) rfl (by decide) rfl ?_
  intro ps hT hpre W hW
  simp only [c_isLong1, TyA, Ty, Tys] at hT hpre
  obtain ⟨_, _, rfl, ⟨n, rfl, hn⟩, rfl⟩ := hT
  refine hW.vc [] _ _ ?_
  simp [-List.getD_eq_getElem?_getD, c_isLong1]
  rfl

def c_IndexFunc_isLong1 : FSpec := ⟨[(.rd, .list (.int .i64)), (.rd, .fn 45 [])], [.int .i64], true, fun ps => True, fun ps => [.int .i64 (idxGo (fun e => longN e.I) 0 (nth ps 0).L)], fun _ => []⟩
theorem k_IndexFunc_isLong1 : FnOk Tryd.prog 70 c_IndexFunc_isLong1 := by
  refine fn_mk [0, 1, 4, 5, 7, 8] [.tmp 4] (env_cons (cs := []) k_isLong1 (env_nil (tyTab_ok []))) mixed Tryd.func70 rfl (by decide) rfl (by decide) rfl ?_
  intro ps hT hpre W hW
  simp only [c_IndexFunc_isLong1, TyA, Ty, Tys] at hT hpre
  obtain ⟨_, _, rfl, ⟨es, rfl, he, hes⟩, _, _, rfl, ⟨_, rfl, rfl⟩, rfl⟩ := hT
  refine hW.vc [] _ _ ?_
  simp [-List.getD_eq_getElem?_getD, c_IndexFunc_isLong1, c_isLong1]
  intro h1
  refine hW.loopS _ _ _ [.sl 8 .dp (.int .i64)] (fun ys => ∃ i : Nat, ys = [.int .i64 i] ∧ i ≤ es.length ∧ idxGo (fun e => longN e.I) 0 es = idxGo (fun e => longN e.I) i (es.drop i)) (fun ys => es.length - (nth ys 0).I.toNat) ?_ ?_
  · simp [-List.getD_eq_getElem?_getD, c_IndexFunc_isLong1, c_isLong1]
    exact ⟨0, rfl, by simp, by simp⟩
  · rintro ys ⟨i, rfl, h2, h3⟩
    refine hW.vc [] _ _ ?_
    simp [-List.getD_eq_getElem?_getD, c_IndexFunc_isLong1, c_isLong1]
    refine ⟨fun h4 => ⟨h4, fun _ => ⟨fun h5 => ?_, fun h5 => ?_⟩⟩, fun h4 => ?_⟩
    · rw [h3, drop_nth h4]; simp [idxGo, h5]
    · rw [wrap64 (by omega)]
      refine ⟨⟨i + 1, by omega, by omega, ?_⟩, by omega⟩
      rw [h3, drop_nth h4]; simp [idxGo, h5]
    · rw [h3, List.drop_eq_nil_of_le h4]; rfl

def c_ContainsFunc_isLong1 : FSpec := ⟨[(.rd, .list (.int .i64)), (.rd, .fn 45 [])], [.bool], true, fun ps => True, fun ps => [.bool ((nth ps 0).L.any (fun e => longN e.I))], fun _ => []⟩
theorem k_ContainsFunc_isLong1 : FnOk Tryd.prog 44 c_ContainsFunc_isLong1 := by
  refine fn_mk [0, 1, 4] [.tmp 4] (env_cons (cs := [45]) k_IndexFunc_isLong1 (env_nil (tyTab_ok []))) mixed Tryd.func44 rfl (by decide) rfl (by decide) rfl ?_
  intro ps hT hpre W hW
  simp only [c_ContainsFunc_isLong1, TyA, Ty, Tys] at hT hpre
  obtain ⟨_, _, rfl, ⟨es, rfl, he, hes⟩, _, _, rfl, ⟨_, rfl, rfl⟩, rfl⟩ := hT
  refine hW.vc [] _ _ ?_
  simp [-List.getD_eq_getElem?_getD, c_ContainsFunc_isLong1, c_IndexFunc_isLong1]
  exact idxGo_any (fun e => longN e.I) es 0

def c_isLong : FSpec := ⟨[(.rd, .list (.int .i64))], [.bool], true, fun _ => True, fun ps => [.bool ((nth ps 0).L.any (fun e => longN e.I))], fun _ => []⟩
theorem k_isLong : FnOk Tryd.prog 23 c_isLong := by
  refine fn_mk [0, 2] [.tmp 2] (env_cons (cs := [45]) k_ContainsFunc_isLong1 (env_nil (tyTab_ok []))) mixed Tryd.func23 rfl (by decide) rfl (by decide) rfl ?_
  intro ps hT hpre W hW
  simp only [c_isLong, TyA, Ty, Tys] at hT hpre
  obtain ⟨_, _, rfl, ⟨es, rfl, hes, tes⟩, rfl⟩ := hT
  refine hW.vc [] _ _ ?_
  simp [-List.getD_eq_getElem?_getD, c_isLong, c_ContainsFunc_isLong1]

end Go.Proofs.YtolgjekokdimoaaDoor
end

section
namespace Go.Proofs.YtolgjekokdimoaaDoor
variable [LaidG]
variable [LaidN 5]
variable [LaidN 4]
variable [LaidN 2] [LaidN 3]
set_option maxRecDepth 100000
set_option linter.unusedSimpArgs false

/-- Both readings agree. -/
def SameL (es : List PV) (s : Int) : Prop := rlB es s = spB es s ∧ (rlB es s = true → rlK es = spK es ∧ rlV es = spV es)
theorem same_none {es : List PV} {s : Int} (h1 : rlC es = none) (h2 : spC es = none) : SameL es s := by
  obtain ⟨_, _, _, e4⟩ := rl_none h1 s
  obtain ⟨_, _, _, f4⟩ := sp_none h2 s
  exact ⟨by rw [e4, f4], fun h => by rw [e4] at h; cases h⟩
theorem same_some {es : List PV} {s k : Int} {c : CM} (h1 : rlC es = some c) (h2 : spC es = some (k, c)) (h3 : formK (nth es 0).S = k) : SameL es s := by
  obtain ⟨e1, e2, _, e4⟩ := rl_some h1 s
  obtain ⟨f1, f2, _, f4⟩ := sp_some h2 s
  exact ⟨by rw [e4, f4, h3], fun _ => ⟨by rw [e2, f2, h3], by rw [e1, f1]⟩⟩
theorem same_bad {es : List PV} {s k : Int} {c : CM} (h1 : rlC es = none) (h2 : spC es = some (k, c)) (h3 : c.ok k s = false) : SameL es s := by
  obtain ⟨_, _, _, e4⟩ := rl_none h1 s
  obtain ⟨f1, f2, _, f4⟩ := sp_some h2 s
  exact ⟨by rw [e4, f4, h3], fun h => by rw [e4] at h; cases h⟩
theorem tl_window (a : PV) (ws : List PV) (s : Int) (hw : a.S = [119, 105, 110, 100, 111, 119]) : SameL (a :: ws) s := by
  have hk : formK a.S = 1 := by simp [formK, hw]
  have hf : formF a.S = [119] := by simp [formF, hw]
  by_cases hl : ws.length = 1
  · match ws, hl with
    | [b], _ =>
      exact same_some (k := 1) (by simp [rlC, foldC, stepC, nth_zero, hk, hf]; try rfl) (by simp [spC, wdP, pnN, nth_zero, nth_succ, hw, hk, hf]) hk
  · have hl2 : ¬ ws.length + 1 = 2 := by omega
    exact same_none (by simp [rlC, nth_zero, hk, hf, hl]) (by simp [spC, wdP, nth_zero, hw, hl])
theorem tl_split (a : PV) (ws : List PV) (s : Int) (hw : a.S = [115, 112, 108, 105, 116]) : SameL (a :: ws) s := by
  have hk : formK a.S = 2 := by simp [formK, hw]
  have hf : formF a.S = [112, 104] := by simp [formF, hw]
  by_cases hl : ws.length = 2
  · match ws, hl with
    | [b, c], _ =>
      by_cases hb : (numV b.S).2 = true
      · skip
        by_cases hh : c.S = rowsW ∨ c.S = colsW
        · skip
          exact same_some (k := 2) (by simp [rlC, foldC, stepC, nth_zero, hb, hh, hk, hf]; try rfl) (by simp [spC, wdP, pnN, nth_zero, nth_succ, hw, hb, hh, hk, hf]; try congr) hk
        · exact same_none (by simp [rlC, foldC, stepC, nth_zero, hk, hf, hb, hh]) (by simp [spC, wdP, nth_zero, nth_succ, hw, hh])
      · skip
        by_cases hh : c.S = rowsW ∨ c.S = colsW
        · skip
          exact same_bad (k := 2) (by simp [rlC, foldC, stepC, nth_zero, hb, hh, hk, hf]) (by simp [spC, wdP, pnN, nth_zero, nth_succ, hw, hb, hh, hk, hf]; try rfl) (by simp [CM.ok, okCmd, okBody, sizeB, inB, CM.zero])
        · exact same_none (by simp [rlC, foldC, stepC, nth_zero, hk, hf, hb, hh]) (by simp [spC, wdP, nth_zero, nth_succ, hw, hh])
  · have hl2 : ¬ ws.length + 1 = 3 := by omega
    exact same_none (by simp [rlC, nth_zero, hk, hf, hl]) (by simp [spC, wdP, nth_zero, hw, hl])
theorem tl_kill (a : PV) (ws : List PV) (s : Int) (hw : a.S = [107, 105, 108, 108]) : SameL (a :: ws) s := by
  have hk : formK a.S = 3 := by simp [formK, hw]
  have hf : formF a.S = [112] := by simp [formF, hw]
  by_cases hl : ws.length = 1
  · match ws, hl with
    | [b], _ =>
      by_cases hb : (numV b.S).2 = true
      · skip
        exact same_some (k := 3) (by simp [rlC, foldC, stepC, nth_zero, hb, hk, hf]; try rfl) (by simp [spC, wdP, pnN, nth_zero, nth_succ, hw, hb, hk, hf]) hk
      · skip
        exact same_bad (k := 3) (by simp [rlC, foldC, stepC, nth_zero, hb, hk, hf]) (by simp [spC, wdP, pnN, nth_zero, nth_succ, hw, hb, hk, hf]; try rfl) (by simp [CM.ok, okCmd, okBody, sizeB, inB, CM.zero])
  · have hl2 : ¬ ws.length + 1 = 2 := by omega
    exact same_none (by simp [rlC, nth_zero, hk, hf, hl]) (by simp [spC, wdP, nth_zero, hw, hl])
theorem tl_move (a : PV) (ws : List PV) (s : Int) (hw : a.S = [109, 111, 118, 101]) : SameL (a :: ws) s := by
  have hk : formK a.S = 4 := by simp [formK, hw]
  have hf : formF a.S = [112, 110] := by simp [formF, hw]
  by_cases hl : ws.length = 2
  · match ws, hl with
    | [b, c], _ =>
      by_cases hb : (numV b.S).2 = true
      · skip
        by_cases hc : (numV c.S).2 = true
        · skip
          exact same_some (k := 4) (by simp [rlC, foldC, stepC, nth_zero, hb, hc, hk, hf]; try rfl) (by simp [spC, wdP, pnN, nth_zero, nth_succ, hw, hb, hc, hk, hf]) hk
        · skip
          exact same_bad (k := 4) (by simp [rlC, foldC, stepC, nth_zero, hb, hc, hk, hf]) (by simp [spC, wdP, pnN, nth_zero, nth_succ, hw, hb, hc, hk, hf]; try rfl) (by simp [CM.ok, okCmd, okBody, sizeB, inB, CM.zero])
      · skip
        by_cases hc : (numV c.S).2 = true
        · skip
          exact same_bad (k := 4) (by simp [rlC, foldC, stepC, nth_zero, hb, hc, hk, hf]) (by simp [spC, wdP, pnN, nth_zero, nth_succ, hw, hb, hc, hk, hf]; try rfl) (by simp [CM.ok, okCmd, okBody, sizeB, inB, CM.zero])
        · skip
          exact same_bad (k := 4) (by simp [rlC, foldC, stepC, nth_zero, hb, hc, hk, hf]) (by simp [spC, wdP, pnN, nth_zero, nth_succ, hw, hb, hc, hk, hf]; try rfl) (by simp [CM.ok, okCmd, okBody, sizeB, inB, CM.zero])
  · have hl2 : ¬ ws.length + 1 = 3 := by omega
    exact same_none (by simp [rlC, nth_zero, hk, hf, hl]) (by simp [spC, wdP, nth_zero, hw, hl])
theorem tl_write (a : PV) (ws : List PV) (s : Int) (hw : a.S = [119, 114, 105, 116, 101]) : SameL (a :: ws) s := by
  have hk : formK a.S = 5 := by simp [formK, hw]
  have hf : formF a.S = [112, 101, 100] := by simp [formF, hw]
  by_cases hl : ws.length = 3
  · match ws, hl with
    | [b, c, d], _ =>
      by_cases hb : (numV b.S).2 = true
      · skip
        by_cases hc : (numV c.S).2 = true
        · skip
          exact same_some (k := 5) (by simp [rlC, foldC, stepC, nth_zero, hb, hc, hk, hf]; try rfl) (by simp [spC, wdP, pnN, nth_zero, nth_succ, hw, hb, hc, hk, hf]) hk
        · skip
          exact same_bad (k := 5) (by simp [rlC, foldC, stepC, nth_zero, hb, hc, hk, hf]) (by simp [spC, wdP, pnN, nth_zero, nth_succ, hw, hb, hc, hk, hf]; try rfl) (by simp [CM.ok, okCmd, okBody, sizeB, inB, CM.zero])
      · skip
        by_cases hc : (numV c.S).2 = true
        · skip
          exact same_bad (k := 5) (by simp [rlC, foldC, stepC, nth_zero, hb, hc, hk, hf]) (by simp [spC, wdP, pnN, nth_zero, nth_succ, hw, hb, hc, hk, hf]; try rfl) (by simp [CM.ok, okCmd, okBody, sizeB, inB, CM.zero])
        · skip
          exact same_bad (k := 5) (by simp [rlC, foldC, stepC, nth_zero, hb, hc, hk, hf]) (by simp [spC, wdP, pnN, nth_zero, nth_succ, hw, hb, hc, hk, hf]; try rfl) (by simp [CM.ok, okCmd, okBody, sizeB, inB, CM.zero])
  · have hl2 : ¬ ws.length + 1 = 4 := by omega
    exact same_none (by simp [rlC, nth_zero, hk, hf, hl]) (by simp [spC, wdP, nth_zero, hw, hl])
theorem tl_own (a : PV) (ws : List PV) (s : Int) (hw : a.S = [111, 119, 110]) : SameL (a :: ws) s := by
  have hk : formK a.S = 6 := by simp [formK, hw]
  have hf : formF a.S = [112, 110] := by simp [formF, hw]
  by_cases hl : ws.length = 2
  · match ws, hl with
    | [b, c], _ =>
      by_cases hb : (numV b.S).2 = true
      · skip
        by_cases hc : (numV c.S).2 = true
        · skip
          exact same_some (k := 6) (by simp [rlC, foldC, stepC, nth_zero, hb, hc, hk, hf]; try rfl) (by simp [spC, wdP, pnN, nth_zero, nth_succ, hw, hb, hc, hk, hf]) hk
        · skip
          exact same_bad (k := 6) (by simp [rlC, foldC, stepC, nth_zero, hb, hc, hk, hf]) (by simp [spC, wdP, pnN, nth_zero, nth_succ, hw, hb, hc, hk, hf]; try rfl) (by simp [CM.ok, okCmd, okBody, sizeB, inB, CM.zero])
      · skip
        by_cases hc : (numV c.S).2 = true
        · skip
          exact same_bad (k := 6) (by simp [rlC, foldC, stepC, nth_zero, hb, hc, hk, hf]) (by simp [spC, wdP, pnN, nth_zero, nth_succ, hw, hb, hc, hk, hf]; try rfl) (by simp [CM.ok, okCmd, okBody, sizeB, inB, CM.zero])
        · skip
          exact same_bad (k := 6) (by simp [rlC, foldC, stepC, nth_zero, hb, hc, hk, hf]) (by simp [spC, wdP, pnN, nth_zero, nth_succ, hw, hb, hc, hk, hf]; try rfl) (by simp [CM.ok, okCmd, okBody, sizeB, inB, CM.zero])
  · have hl2 : ¬ ws.length + 1 = 3 := by omega
    exact same_none (by simp [rlC, nth_zero, hk, hf, hl]) (by simp [spC, wdP, nth_zero, hw, hl])
theorem tl_resize (a : PV) (ws : List PV) (s : Int) (hw : a.S = [114, 101, 115, 105, 122, 101]) : SameL (a :: ws) s := by
  have hk : formK a.S = 7 := by simp [formK, hw]
  have hf : formF a.S = [110, 101] := by simp [formF, hw]
  by_cases hl : ws.length = 2
  · match ws, hl with
    | [b, c], _ =>
      by_cases hb : (numV b.S).2 = true
      · skip
        by_cases hc : (numV c.S).2 = true
        · skip
          exact same_some (k := 7) (by simp [rlC, foldC, stepC, nth_zero, hb, hc, hk, hf]; try rfl) (by simp [spC, wdP, pnN, nth_zero, nth_succ, hw, hb, hc, hk, hf]) hk
        · skip
          exact same_bad (k := 7) (by simp [rlC, foldC, stepC, nth_zero, hb, hc, hk, hf]) (by simp [spC, wdP, pnN, nth_zero, nth_succ, hw, hb, hc, hk, hf]; try rfl) (by simp [CM.ok, okCmd, okBody, sizeB, inB, CM.zero])
      · skip
        by_cases hc : (numV c.S).2 = true
        · skip
          exact same_bad (k := 7) (by simp [rlC, foldC, stepC, nth_zero, hb, hc, hk, hf]) (by simp [spC, wdP, pnN, nth_zero, nth_succ, hw, hb, hc, hk, hf]; try rfl) (by simp [CM.ok, okCmd, okBody, sizeB, inB, CM.zero])
        · skip
          exact same_bad (k := 7) (by simp [rlC, foldC, stepC, nth_zero, hb, hc, hk, hf]) (by simp [spC, wdP, pnN, nth_zero, nth_succ, hw, hb, hc, hk, hf]; try rfl) (by simp [CM.ok, okCmd, okBody, sizeB, inB, CM.zero])
  · have hl2 : ¬ ws.length + 1 = 3 := by omega
    exact same_none (by simp [rlC, nth_zero, hk, hf, hl]) (by simp [spC, wdP, nth_zero, hw, hl])
theorem tl_rename (a : PV) (ws : List PV) (s : Int) (hw : a.S = [114, 101, 110, 97, 109, 101]) : SameL (a :: ws) s := by
  have hk : formK a.S = 8 := by simp [formK, hw]
  have hf : formF a.S = [119, 100] := by simp [formF, hw]
  by_cases hl : ws.length = 2
  · match ws, hl with
    | [b, c], _ =>
      exact same_some (k := 8) (by simp [rlC, foldC, stepC, nth_zero, hk, hf]; try rfl) (by simp [spC, wdP, pnN, nth_zero, nth_succ, hw, hk, hf]) hk
  · have hl2 : ¬ ws.length + 1 = 3 := by omega
    exact same_none (by simp [rlC, nth_zero, hk, hf, hl]) (by simp [spC, wdP, nth_zero, hw, hl])
theorem tl_all (a : PV) (ws : List PV) (s : Int) : SameL (a :: ws) s := by
  by_cases h1 : a.S = [119, 105, 110, 100, 111, 119]
  · exact tl_window a ws s h1
  by_cases h2 : a.S = [115, 112, 108, 105, 116]
  · exact tl_split a ws s h2
  by_cases h3 : a.S = [107, 105, 108, 108]
  · exact tl_kill a ws s h3
  by_cases h4 : a.S = [109, 111, 118, 101]
  · exact tl_move a ws s h4
  by_cases h5 : a.S = [119, 114, 105, 116, 101]
  · exact tl_write a ws s h5
  by_cases h6 : a.S = [111, 119, 110]
  · exact tl_own a ws s h6
  by_cases h7 : a.S = [114, 101, 115, 105, 122, 101]
  · exact tl_resize a ws s h7
  by_cases h8 : a.S = [114, 101, 110, 97, 109, 101]
  · exact tl_rename a ws s h8
  exact same_none (by simp [rlC, nth_zero, formK, h1, h2, h3, h4, h5, h6, h7, h8]) (by simp [spC, wdP, nth_zero, h1, h2, h3, h4, h5, h6, h7, h8])
theorem tl_nil (s : Int) : rlB [] s = false := rfl
def lineP (t : List UInt8) : List PV := (wordsL t).map PV.str
theorem lineP_len (t : List UInt8) : (lineP t).length ≤ t.length + 1 := by
  have h1 := cutA_len (x := 32) t []
  have h2 := List.length_filter_le (fun w : List UInt8 => !w.isEmpty) (cutA 32 [] t)
  rw [lineP, List.length_map, wordsL]; omega
theorem lineP_part (t : List UInt8) : ∀ e ∈ lineP t, e.S.length ≤ t.length := by
  intro e he
  rw [lineP, List.mem_map] at he
  obtain ⟨w, hw, rfl⟩ := he
  have := cutA_part (x := 32) t [] w (List.mem_filter.1 hw).1
  simpa [PV.S] using this
/-- The answer of reading a line, and the command. -/
def RLE (t : List UInt8) (s : Int) : Int := if longN t.length = true then 2 else if inB s 1 60000 = false then 4 else if rlB (lineP t) s = true then 0 else 3
def RLC (t : List UInt8) (s : Int) : CM := if RLE t s = 0 then rlV (lineP t) else CM.zero
def RLK (t : List UInt8) (s : Int) : Int := if RLE t s = 0 then rlK (lineP t) else 0
def RLS (t : List UInt8) (s : Int) : Int := if RLE t s = 0 then s else 0
theorem rle_long {t : List UInt8} {s : Int} (h : longN t.length = true) : RLE t s = 2 ∧ RLC t s = CM.zero ∧ RLK t s = 0 ∧ RLS t s = 0 := by
  have e : RLE t s = 2 := by rw [RLE, if_pos h]
  simp [RLC, RLK, RLS, e]
theorem rle_range {t : List UInt8} {s : Int} (h : longN t.length = false) (h2 : inB s 1 60000 = false) : RLE t s = 4 ∧ RLC t s = CM.zero ∧ RLK t s = 0 ∧ RLS t s = 0 := by
  have e : RLE t s = 4 := by rw [RLE, if_neg (by rw [h]; decide), if_pos h2]
  simp [RLC, RLK, RLS, e]
theorem rle_form {t : List UInt8} {s : Int} (h : longN t.length = false) (h2 : inB s 1 60000 = true) (h3 : rlB (lineP t) s = false) : RLE t s = 3 ∧ RLC t s = CM.zero ∧ RLK t s = 0 ∧ RLS t s = 0 := by
  have e : RLE t s = 3 := by rw [RLE, if_neg (by rw [h]; decide), if_neg (by rw [h2]; decide), if_neg (by rw [h3]; decide)]
  simp [RLC, RLK, RLS, e]
theorem rle_good {t : List UInt8} {s : Int} (h : longN t.length = false) (h2 : inB s 1 60000 = true) (h3 : rlB (lineP t) s = true) : RLE t s = 0 ∧ RLC t s = rlV (lineP t) ∧ RLK t s = rlK (lineP t) ∧ RLS t s = rlS (lineP t) s := by
  have e : RLE t s = 0 := by rw [RLE, if_neg (by rw [h]; decide), if_neg (by rw [h2]; decide), if_pos h3]
  have e2 : rlS (lineP t) s = s := by
    have : (rlC (lineP t)).isSome = true := by rw [rlB, Bool.and_eq_true] at h3; exact h3.1
    rw [rlS, this]; rfl
  simp [RLC, RLK, RLS, e, e2]
theorem zero_line {t : List UInt8} {s k : Int} (h : RLE t s = k ∧ RLC t s = CM.zero ∧ RLK t s = 0 ∧ RLS t s = 0) : (0 = RLK t s ∧ 0 = RLS t s ∧ 0 = (RLC t s).pane ∧ 0 = (RLC t s).n ∧ 0 = (RLC t s).epoch ∧ (RLC t s).rows = false ∧ (RLC t s).name = [] ∧ (RLC t s).data = []) ∧ k = RLE t s := by
  obtain ⟨e1, e2, e3, e4⟩ := h
  rw [e1, e2, e3, e4]; simp [CM.zero]
theorem line_words {t : List UInt8} (h : t.length ≤ 65536) : (wordsL t).length ≤ 1048576 ∧ ∀ a, a ∈ wordsL t → a.length ≤ 1048576 := by
  constructor
  · have := lineP_len t
    rw [lineP, List.length_map] at this; omega
  · intro a ha
    have := lineP_part t (.str a) (List.mem_map_of_mem ha)
    simp only [PV.S] at this; omega
theorem long_le {t : List UInt8} (h : longN t.length = false) : t.length ≤ 65536 := by
  simp [longN] at h; omega
theorem line_same (t : List UInt8) (s : Int) (h : wordsL t ≠ []) : SameL (lineP t) s := by
  rw [lineP]
  cases hw : wordsL t with
  | nil => exact absurd hw h
  | cons a l => exact tl_all _ _ s
def c_ReadLine : FSpec := ⟨[(.rd, .str), (.rd, .int .i64)], [.agg [.int .i64, .int .i64, .int .i64, .int .i64, .int .i64, .int .i64, .bool, .str, .str], .int .i64], true, fun ps => (nth ps 0).S.length ≤ 1048576,
  fun ps => [.agg [.int .i64 (RLK (nth ps 0).S (nth ps 1).I), .int .i64 0, .int .i64 (RLS (nth ps 0).S (nth ps 1).I), .int .i64 (RLC (nth ps 0).S (nth ps 1).I).pane, .int .i64 (RLC (nth ps 0).S (nth ps 1).I).n, .int .i64 (RLC (nth ps 0).S (nth ps 1).I).epoch, .bool (RLC (nth ps 0).S (nth ps 1).I).rows, .str (RLC (nth ps 0).S (nth ps 1).I).name, .str (RLC (nth ps 0).S (nth ps 1).I).data], .int .i64 (RLE (nth ps 0).S (nth ps 1).I)], fun _ => []⟩
theorem k_ReadLine : FnOk Tryd.prog 19 c_ReadLine := by
  refine fn_mk [0, 1, 4, 5, 6, 7] [.cell 4 43, .tmp 5] (env_cons (cs := []) k_readLine (env_cons (cs := []) k_lineWords (env_cons (cs := []) k_within (env_cons (cs := []) k_isLong (env_nil (tyTab_ok [])))))) mixed Tryd.func19 rfl (by decide) rfl (by decide) rfl ?_
  intro ps hT hpre W hW
  simp only [c_ReadLine, TyA, Ty, Tys] at hT hpre
  obtain ⟨_, _, rfl, ⟨t, rfl, ht⟩, _, _, rfl, ⟨s, rfl, hs⟩, rfl⟩ := hT
  simp only [nth_zero, nth_succ, pv_S] at hpre
  refine hW.vc [] _ _ ?_
  simp [-List.getD_eq_getElem?_getD, c_ReadLine, c_isLong, c_within, c_lineWords, c_readLine]
  refine fun _ => ⟨fun h => zero_line (rle_long h), fun h => ⟨fun h2 => zero_line (rle_range h h2), fun h2 => ⟨hpre, (line_words (long_le h)).2, fun h3 => zero_line (rle_form h h2 h3), fun h3 => ?_⟩⟩⟩
  obtain ⟨e1, e2, e3, e4⟩ := rle_good h h2 h3
  rw [e1, e2, e3, e4]; exact ⟨⟨rfl, rfl, rfl, rfl, rfl, rfl, rfl, rfl⟩, rfl⟩
def c_sReadLine : FSpec := c_ReadLine
theorem k_sReadLine : FnOk Tryd.prog 18 c_sReadLine := by
  refine fn_mk [0, 1, 4, 5, 6, 7, 8] [.cell 4 43, .tmp 5] (env_cons (cs := []) k_l16Read (env_cons (cs := []) k_l00Words (env_cons (cs := []) k_l01In (env_nil (tyTab_ok []))))) mixed Tryd.func18 rfl (by decide) rfl (by decide) rfl ?_
  intro ps hT hpre W hW
  simp only [c_sReadLine, TyA, Ty, Tys] at hT hpre
  simp only [c_ReadLine, TyA, Ty, Tys] at hT hpre
  obtain ⟨_, _, rfl, ⟨t, rfl, ht⟩, _, _, rfl, ⟨s, rfl, hs⟩, rfl⟩ := hT
  simp only [nth_zero, nth_succ, pv_S] at hpre
  refine hW.vc [] _ _ ?_
  simp [-List.getD_eq_getElem?_getD, c_sReadLine, c_l01In, c_l00Words, c_l16Read, c_ReadLine, c_within, c_lineWords, c_lineWords, c_within]
  refine fun _ => ⟨fun h => zero_line (rle_long (by simp [longN]; omega)), fun h0 => ?_⟩
  have h : longN t.length = false := by simp [longN]; omega
  refine ⟨fun h2 => zero_line (rle_range h h2), fun h2 => ⟨hpre, fun _ => ⟨fun he => zero_line (rle_form h h2 (by rw [lineP, he]; rfl)), fun he => ?_⟩⟩⟩
  have hs := line_same t s he
  obtain ⟨w1, w2⟩ := line_words (long_le h)
  refine ⟨⟨List.length_pos_iff.2 he, w1, w2⟩, fun h3 => zero_line (rle_form h h2 (hs.1.trans h3)), fun h3 => ?_⟩
  have h4 : rlB (lineP t) s = true := hs.1.trans h3
  obtain ⟨e1, e2, e3, e4⟩ := rle_good h h2 h4
  obtain ⟨f1, f2⟩ := hs.2 h4
  have g1 : rlS (lineP t) s = s := by
    have : (rlC (lineP t)).isSome = true := by rw [rlB, Bool.and_eq_true] at h4; exact h4.1
    rw [rlS, this]; rfl
  have g2 : spS (lineP t) s = s := by
    have : (spC (lineP t)).isSome = true := by
      have h5 : spB (lineP t) s = true := h3
      rw [spB, Bool.and_eq_true] at h5; exact h5.1
    rw [spS, this]; rfl
  rw [e1, e2, e3, e4, f1, f2, g1]
  exact ⟨⟨rfl, g2, rfl, rfl, rfl, rfl, rfl, rfl⟩, rfl⟩
def c_exReadLine : FSpec := ⟨[(.rd, .str), (.rd, .int .i64)], [.bool], true, fun _ => True, fun _ => [.bool true], fun _ => []⟩
theorem k_exReadLine : FnOk Tryd.prog 6 c_exReadLine := by
  refine fn_mk [0, 1, 4, 5, 6, 7, 8] [.tmp 4] (env_cons (cs := []) k_eqCommand (env_cons (cs := []) k_ReadLine (env_cons (cs := []) k_sReadLine (env_nil (tyTab_ok []))))) mixed Tryd.func6 rfl (by decide) rfl (by decide) rfl ?_
  intro ps hT hpre W hW
  simp only [c_exReadLine, TyA, Ty, Tys] at hT hpre
  obtain ⟨_, _, rfl, ⟨t, rfl, ht⟩, _, _, rfl, ⟨s, rfl, hs⟩, rfl⟩ := hT
  refine hW.vc [] _ _ ?_
  simp [-List.getD_eq_getElem?_getD, c_exReadLine, c_sReadLine, c_ReadLine, c_eqCommand, c_ReadLine]
  intro _ h; omega

end Go.Proofs.YtolgjekokdimoaaDoor
end

section
namespace Go.Proofs.YtolgjekokdimoaaDoor
variable [LaidG]
set_option linter.unusedVariables false

def ptyOf (g : Bool) (l : List PTy) : PTy := if g then .agg l else l.headD .opq

mutual
/-- The types of data: their leaves. -/
inductive Dat (P : Program) : Nat → Bool → List PTy → Prop
  | int {t k} : P.underlying t = some (.int k) → t < P.types.size → Dat P t false [.int k]
  | bool {t} : P.underlying t = some .bool → t < P.types.size → Dat P t false [.bool]
  | str {t} : P.underlying t = some .string → t < P.types.size → Dat P t false [.str]
  | slice {t e g l} : P.underlying t = some (.slice e) → Dat P e g l → P.cellsOf e = l.length → 0 < l.length → 0 < P.bytesOf e → t < P.types.size → Dat P t false [.list (ptyOf g l)]
  | struct {t fs l} : P.underlying t = some (.struct fs) → Dats P (fs.toList.map (·.type)) l → P.cellsOf t = l.length → t < P.types.size → Dat P t true l
inductive Dats (P : Program) : List Nat → List PTy → Prop
  | nil : Dats P [] []
  | cons {t ts g l m} : Dat P t g l → P.cellsOf t = l.length → Dats P ts m → Dats P (t :: ts) (l ++ m)
end

section
variable {H : Type} {enc : TypeId × Value → H} {P : Program} {w : World} {base : Nat} {spare : Nat → Bool}

theorem Dat.lt {t : Nat} {g : Bool} {l : List PTy} (h : Dat P t g l) : t < P.types.size := by
  cases h <;> assumption

theorem dat_leaf {t : Nat} {l : List PTy} (h : Dat P t false l) : ∃ T, l = [T] ∧ ∀ ts, T ≠ .agg ts := by
  cases h <;> exact ⟨_, rfl, by simp⟩

theorem cells_get {base : Nat} {a : Addr} {n : Nat} {cs : List Value} (h : w.cells? base a n = some cs) : cs.length = n ∧ ∀ i, i < n → w.cell? (a.add i) = cs[i]? := by
  unfold World.cells? at h
  split at h
  · refine ⟨by simpa using mapM_some_length h, fun i hi => ?_⟩
    have := mapM_some_get h i i (by simp [hi])
    exact this
  · cases h

theorem lim_reach {n : Nat} (h : n ≤ reachBytes) : n ≤ LIM := by
  unfold reachBytes at h; unfold LIM; omega

/-- Elements, one after the other. -/
theorem elems_lv {g : Bool} {l : List PTy} {T : PTy} (hT : T = ptyOf g l) (hg : g = false → ∃ T, l = [T] ∧ ∀ ts, T ≠ .agg ts) : ∀ (css : List (List Value)), (∀ cs ∈ css, ∃ qs f, Lv w l qs cs f) →
    ∃ es f, es.length = css.length ∧ (∀ e ∈ es, Shp T e) ∧ Lv w (flatT T es.length) (flatP es) css.flatten f ∧ T.leaves = l
  | [], _ => ⟨[], [], rfl, by simp, by simpa [flatT, flatP] using Lv.nil, by
      subst hT
      cases g with
      | true => rfl
      | false => obtain ⟨T, rfl, h⟩ := hg rfl; cases T <;> first | rfl | exact absurd rfl (h _)⟩
  | cs :: css, h => by
    obtain ⟨es, f, e1, e2, e3, e4⟩ := elems_lv hT hg css fun x hx => h x (by simp [hx])
    obtain ⟨qs, f1, hq⟩ := h cs (by simp)
    have key : ∃ e, Shp T e ∧ e.leaves = qs := by
      subst hT
      cases g with
      | true => exact ⟨.agg qs, ⟨qs, rfl, hq.lens.1.symm⟩, rfl⟩
      | false =>
        obtain ⟨T, rfl, hn⟩ := hg rfl
        have hl := hq.lens.1
        match qs, hl with
        | [q], _ =>
          have hne := hq.leaves_of q (by simp)
          refine ⟨q, ?_, ?_⟩
          · show Shp T q
            cases T <;> first | exact hne | exact absurd rfl (hn _)
          · cases q <;> first | rfl | exact absurd rfl (hne _)
    obtain ⟨e, k1, k2⟩ := key
    refine ⟨e :: es, f1 ++ f, by simp [e1], ?_, ?_, e4⟩
    · intro x hx; rcases List.mem_cons.1 hx with rfl | hx
      · exact k1
      · exact e2 x hx
    · have q1 : flatT T (e :: es).length = T.leaves ++ flatT T es.length := by simp [flatT, List.replicate_succ]
      have q2 : flatP (e :: es) = e.leaves ++ flatP es := by simp [flatP]
      rw [q1, q2, e4, k2, List.flatten_cons]
      exact hq.append e3

theorem wf_inR {k : IntKind} {n : Int} (h : (Lit.int k n).wf = true) : inR k n := by
  unfold Lit.wf at h; unfold inR
  simpa only [Bool.and_eq_true, decide_eq_true_eq] using h

theorem row_take {c : Array Value} {ci : List Value} {o k : Nat} (h1 : ci.length = k) (h2 : ∀ j, j < k → c[o + j]? = ci[j]?) : (c.toList.drop o).take k = ci := by
  apply List.ext_getElem?
  intro j
  by_cases hj : j < k
  · rw [List.getElem?_take, if_pos hj, List.getElem?_drop, ← h2 j hj]; simp
  · rw [List.getElem?_take, if_neg hj, List.getElem?_eq_none (by omega)]

theorem rows_take {c : Array Value} {o k : Nat} : ∀ (css : List (List Value)) (i0 : Nat), (∀ i ci, css[i]? = some ci → ci.length = k ∧ ∀ j, j < k → c[o + (i0 + i) * k + j]? = ci[j]?) → (c.toList.drop (o + i0 * k)).take css.flatten.length = css.flatten
  | [], i0, _ => by simp
  | ci :: css, i0, h => by
    obtain ⟨h1, h2⟩ := h 0 ci (by simp)
    have ih := rows_take (c := c) (o := o) (k := k) css (i0 + 1) fun i cj hi => by
      have := h (i + 1) cj (by simpa using hi)
      rw [show i0 + (i + 1) = i0 + 1 + i by omega] at this
      exact this
    simp only [List.flatten_cons, List.length_append]
    rw [List.take_add, List.drop_drop, h1]
    congr 1
    · exact row_take h1 fun j hj => by simpa using h2 j hj
    · rw [show o + i0 * k + k = o + (i0 + 1) * k by rw [Nat.add_mul]; omega]
      exact ih

theorem weightsAll_mem {e : TypeId} : ∀ {ds : List (DataW H)} {d : DataW H}, d ∈ ds → ∀ y ∈ d.weights P e, y ∈ DataW.weightsAll P e ds
  | x :: ds, d, hd, y, hy => by
    simp only [DataW.weightsAll, List.mem_append]
    rcases List.mem_cons.1 hd with rfl | hd
    · exact .inl hy
    · exact .inr (weightsAll_mem hd y hy)

theorem dats_lv {n : Nat} {cs : List Value} (ih : ∀ t g l cs x, Dat P t g l → DataW.trod enc P w base spare true n t cs = some x → (∀ y ∈ x.1.weights P t, y ≤ reachBytes) → ∃ qs f, Lv w l qs cs f) : ∀ (fs : List Field) (l : List PTy) (xs : List (DataW H × List MemPlace)) (o : Nat), Dats P (fs.map Field.type) l →
  (∀ (j : Nat) (f : Field), fs[j]? = some f → f.offset = o + ((fs.take j).map fun (f : Field) => P.cellsOf f.type).sum) → (∀ (j : Nat) (f : Field), fs[j]? = some f → DataW.trod enc P w base spare true n f.type ((cs.drop f.offset).take (P.cellsOf f.type)) = xs[j]?) → xs.length = fs.length →
    (∀ y ∈ DataW.weightsEach P (fs.map Field.type) (xs.map (·.1)), y ≤ reachBytes) → ∃ qs f, Lv w l qs ((cs.drop o).take l.length) f
  | [], l, xs, o, hd, hof, hx, hlen, hw => by cases hd; exact ⟨[], [], by simpa using Lv.nil⟩
  | f :: fs, l, xs, o, hd, hof, hx, hlen, hw => by
    cases xs with
    | nil => simp at hlen
    | cons x xs =>
      simp only [List.map_cons] at hd hw
      cases hd with
      | @cons t ts g l1 m h1 h2 h3 =>
        have e0 := hof 0 f (by simp)
        simp only [List.take_zero, List.map_nil, List.sum_nil, Nat.add_zero] at e0
        have x0 := hx 0 f (by simp)
        simp only [List.getElem?_cons_zero, e0, h2] at x0
        simp only [DataW.weightsEach, List.mem_append] at hw
        obtain ⟨q1, f1, hq1⟩ := ih _ _ _ _ _ h1 x0 (fun y hy => hw y (.inl hy))
        obtain ⟨q2, f2, hq2⟩ := dats_lv ih fs m xs (o + l1.length) h3 (fun j f' hj => by
          have := hof (j + 1) f' (by simpa using hj)
          simp only [List.take_succ_cons, List.map_cons, List.sum_cons, h2] at this
          omega) (fun j f' hj => by simpa using hx (j + 1) f' (by simpa using hj)) (by simpa using hlen) (fun y hy => hw y (.inr hy))
        refine ⟨q1 ++ q2, f1 ++ f2, ?_⟩
        rw [List.length_append, List.take_add, List.drop_drop]
        exact hq1.append hq2

/-- What is read as data lies in memory as such. -/
theorem trod_lv (K : Kids P (· < P.types.size)) (hdt : ∀ t g l, Dat P t g l → t < P.types.size) : ∀ (n : Nat) (t : Nat) (g : Bool) (l : List PTy) (cs : List Value) (x : DataW H × List MemPlace), Dat P t g l → DataW.trod enc P w base spare true n t cs = some x → (∀ y ∈ x.1.weights P t, y ≤ reachBytes) → ∃ qs f, Lv w l qs cs f := by
  intro n
  induction n with
  | zero => intro t g l cs x _ h; simp [DataW.trod] at h
  | succ n ih =>
    intro t g l cs x hd h hw
    have hd0 := hd
    cases hd with
    | int ht _ =>
      obtain ⟨m, rfl, rfl, hwf⟩ := DataW.trod_int ht h
      exact ⟨[.int _ m], [], .int (wf_inR hwf) .nil⟩
    | bool ht _ =>
      obtain ⟨b, rfl, rfl⟩ := DataW.trod_bool ht h
      exact ⟨[.bool b], [], .bool .nil⟩
    | str ht _ =>
      obtain ⟨b, rfl, rfl, hl⟩ := DataW.trod_string ht h
      have := hw b.data.toList.length (by simp [DataW.weights])
      refine ⟨[.str b.data.toList], [], ?_⟩
      have hL := Lv.str (w := w) (lim_reach this) (Lv.nil (w := w))
      simpa using hL
    | @slice _ e g' l' ht he hc hpos hby _ =>
      rcases DataW.trod_slice ht h with ⟨rfl, rfl⟩ | ⟨a, len, cap, elems, rest, m, hm, rfl, rfl, hb, hle, hcap, hel, hget, _⟩
      · exact ⟨[.list []], [], .empty .nil⟩
      · have hmn : m = n := by omega
        subst hmn
        simp only [DataW.weights, ht, List.length_map, List.mem_cons, List.mem_append] at hw
        have hlim : len ≤ LIM := by
          have h1 := lim_reach (hw _ (.inl rfl))
          have h2 : elems.length * 1 ≤ (elems.length + rest.length) * P.bytesOf e := Nat.mul_le_mul (by omega) hby
          omega
        cases len with
        | zero => exact ⟨[.list []], [], .empty .nil⟩
        | succ len =>
          have hcell : ∀ i, i < len + 1 → ∃ ci y, w.cells? base (a.add (i * l'.length)) l'.length = some ci ∧ elems[i]? = some y ∧ ∃ qs f, Lv w l' qs ci f := by
            intro i hi
            have h1 := hget i hi
            have hy : elems[i]? = some elems[i] := by simp [hel, hi]
            rw [hy, hc] at h1
            cases hci : w.cells? base (a.add (i * l'.length)) l'.length with
            | none => rw [hci] at h1; cases h1
            | some ci =>
              rw [hci] at h1
              exact ⟨ci, _, rfl, hy, ih e g' l' ci _ he h1 fun y hy => hw y (.inr (.inl (weightsAll_mem (List.mem_map.2 ⟨_, List.getElem_mem (by omega), rfl⟩) y hy)))⟩
          let ci : Nat → List Value := fun i => (w.cells? base (a.add (i * l'.length)) l'.length).getD []
          have hci : ∀ i, i < len + 1 → w.cells? base (a.add (i * l'.length)) l'.length = some (ci i) ∧ ∃ qs f, Lv w l' qs (ci i) f := by
            intro i hi
            obtain ⟨c, y, h1, _, h2⟩ := hcell i hi
            have : ci i = c := by simp [ci, h1]
            rw [this]; exact ⟨h1, h2⟩
          have hT : ∃ T, T = ptyOf g' l' := ⟨_, rfl⟩
          obtain ⟨T, hT⟩ := hT
          obtain ⟨es, f, e1, e2, e3, e4⟩ := elems_lv (w := w) hT (fun hg => by subst hg; exact dat_leaf he) ((List.range (len + 1)).map ci) fun cs hcs => by
            obtain ⟨i, hi, rfl⟩ := List.mem_map.1 hcs
            exact (hci i (by simpa using hi)).2
          simp only [List.length_map, List.length_range] at e1
          obtain ⟨b, o, sp⟩ := a
          have h00 := (cells_get (hci 0 (by omega)).1)
          have h01 := h00.2 0 hpos
          have hne : ∃ u, (ci 0)[0]? = some u := ⟨(ci 0)[0]'(by omega), by simp [h00.1, hpos]⟩
          obtain ⟨u, hu⟩ := hne
          rw [hu] at h01
          have ha0 : (Addr.add ⟨b, o, sp⟩ (0 * l'.length)).add 0 = ⟨b, o, sp⟩ := by simp [Addr.add]
          rw [ha0] at h01
          simp only [World.cell?] at h01
          have hblk : ∃ c t' fr, w.heap[b]? = some (.cells c t' fr) ∧ sp = none := by
            split at h01
            · rename_i c t' fr hc'
              refine ⟨c, t', fr, hc', ?_⟩
              cases sp with
              | none => rfl
              | some _ => simp at h01
            · cases h01
          obtain ⟨c, t', fr, hblk, rfl⟩ := hblk
          refine ⟨[.list es], b :: f ++ [], ?_⟩
          subst hT
          have := Lv.list (cap := cap) (o := o) hblk e2 ⟨by omega, by omega⟩ e3 ?_ Lv.nil
          · rw [e1] at this
            exact this
          · have := rows_take (c := c) (o := o) (k := l'.length) ((List.range (len + 1)).map ci) 0 fun i cj hi => by
              simp only [List.getElem?_map, List.getElem?_range, Option.map_eq_some_iff] at hi
              obtain ⟨j, hj, rfl⟩ := hi
              have hij : i < len + 1 ∧ i = j := by
                by_cases hlt : i < len + 1
                · rw [List.getElem?_range hlt] at hj; cases hj; exact ⟨hlt, rfl⟩
                · rw [List.getElem?_eq_none (by simp; omega)] at hj; cases hj
              obtain ⟨hlt, rfl⟩ := hij
              obtain ⟨k1, k2⟩ := cells_get (hci i hlt).1
              refine ⟨k1, fun j hj => ?_⟩
              have := k2 j hj
              rw [addr_add, addr_add] at this
              simp only [World.cell?, hblk] at this
              rw [← this]
              simp [Nat.add_assoc]
            simpa using this
    | @struct _ fs l ht hds hc _ =>
      obtain ⟨xs, m, hm, rfl, hlen, hxl, hget⟩ := DataW.trod_struct ht h
      have hmn : m = n := by omega
      subst hmn
      obtain ⟨_, _, hoff⟩ := K.struct (hdt _ _ _ hd0) ht
      simp only [DataW.weights, ht] at hw
      obtain ⟨qs, f, hq⟩ := dats_lv (cs := cs) ih fs.toList l xs 0 hds (fun j f hj => by simpa using hoff j f hj) (fun j f hj => hget j f (by simpa using hj)) (by simpa using hxl) hw
      refine ⟨qs, f, ?_⟩
      rw [List.drop_zero, List.take_of_length_le (by omega)] at hq
      exact hq

end
end Go.Proofs.YtolgjekokdimoaaDoor
end

section
namespace Go.Proofs.YtolgjekokdimoaaDoor
variable [LaidG]
open Go.ChangeShapes Go.WideShapes Go.ChangeAt Go.RowKit
set_option linter.unusedVariables false

/-- The parameters of a law. -/
inductive ArgTys (P : Program) : List Nat → List (Md × PTy) → Prop
  | nil : ArgTys P [] []
  | cons {t ts g l ats} : Dat P t g l → ArgTys P ts ats → ArgTys P (t :: ts) ((.rd, ptyOf g l) :: ats)

section
variable {H : Type} {enc : TypeId × Value → H} {P : Program} {W W' : World}

theorem okWide_agg {base : Nat} {t : Nat} {l : List PTy} {v : Value} (hd : Dat P t true l) (h : Value.okWide P W .any base t v) : ∃ cs, v = .agg cs := by
  cases hd with
  | struct ht _ _ _ =>
    unfold Value.okWide at h
    rw [ht] at h
    obtain ⟨cs, h, _⟩ := h
    exact ⟨cs, h⟩

theorem okWide_leaf {base : Nat} {t : Nat} {l : List PTy} {v : Value} (hd : Dat P t false l) (h : Value.okWide P W .any base t v) : v.cells.toList = [v] := by
  cases hd with
  | int ht _ => unfold Value.okWide Cell.okWide Cell.ok at h; rw [ht] at h; cases v <;> first | rfl | (simp at h)
  | bool ht _ => unfold Value.okWide Cell.okWide Cell.ok at h; rw [ht] at h; cases v <;> first | rfl | (simp at h)
  | str ht _ => unfold Value.okWide Cell.okWide Cell.ok at h; rw [ht] at h; cases v <;> first | rfl | (simp at h)
  | slice ht _ _ _ _ _ => unfold Value.okWide Cell.okWide Cell.ok at h; rw [ht] at h; cases v <;> first | rfl | (simp at h)

theorem arg_lv (K : Kids P (· < P.types.size)) (hdt : ∀ t g l, Dat P t g l → t < P.types.size) {base : Nat} {t : Nat} {g : Bool} {l : List PTy} {v : Value} {d : DataW H} {p : List MemPlace} (hd : Dat P t g l) (hk : Value.okWide P W .any base t v)
    (h : DataW.Trod enc P W 0 (fun _ => true) true t v d p) (hw : ∀ y ∈ d.weights P t, y ≤ reachBytes) : ∃ q f, ArgV W (ptyOf g l) q v f f := by
  obtain ⟨n, h⟩ := h
  obtain ⟨qs, f, hL⟩ := trod_lv K hdt n t g l _ (d, p) hd h hw
  cases g with
  | true =>
    obtain ⟨cs, rfl⟩ := okWide_agg hd hk
    exact ⟨.agg qs, f, qs, cs.toList, rfl, by simp, hL, rfl⟩
  | false =>
    rw [okWide_leaf hd hk] at hL
    obtain ⟨T, rfl, hn⟩ := dat_leaf hd
    have hl := hL.lens.1
    match qs, hl with
    | [q], _ =>
      refine ⟨q, f, ?_⟩
      show ArgV W T q v f f
      cases T with
      | agg ts => exact absurd rfl (hn ts)
      | box ts => cases hL
      | abx t => cases hL
      | fn g ts => cases hL
      | opq => cases hL
      | int k => exact ⟨hL, rfl⟩
      | bool => exact ⟨hL, rfl⟩
      | str => exact ⟨hL, rfl⟩
      | list t => exact ⟨hL, rfl⟩

theorem args_lv (K : Kids P (· < P.types.size)) (hdt : ∀ t g l, Dat P t g l → t < P.types.size) {base : Nat} : ∀ {ts : List Nat} {ats : List (Md × PTy)} {vs : List Value} {ds : List (DataW H)} {ps : List MemPlace}, ArgTys P ts ats →
    (∀ (j : Nat) t v, ts[j]? = some t → vs[j]? = some v → Value.okWide P W .any base t v) → DataW.TrodAll enc P W 0 (fun _ => true) true ts vs ds ps → (∀ y ∈ DataW.weightsEach P ts ds, y ≤ reachBytes) →
    ∃ qs fs, ArgsV W ats qs vs fs fs []
  | [], ats, vs, ds, ps, ha, hk, h, hw => by
    cases ha
    cases vs <;> cases ds <;> simp [DataW.TrodAll] at h
    exact ⟨[], [], .nil⟩
  | t :: ts, ats, [], ds, ps, ha, hk, h, hw => by cases ds <;> simp [DataW.TrodAll] at h
  | t :: ts, ats, v :: vs, [], ps, ha, hk, h, hw => by simp [DataW.TrodAll] at h
  | t :: ts, ats, v :: vs, d :: ds, ps, ha, hk, h, hw => by
    cases ha with
    | @cons _ _ g l ats' hd ha =>
      obtain ⟨p, q, h1, h2, rfl⟩ := h
      simp only [DataW.weightsEach, List.mem_append] at hw
      obtain ⟨q1, f1, k1⟩ := arg_lv K hdt hd (hk 0 t v (by simp) (by simp)) h1 (fun y hy => hw y (.inl hy))
      obtain ⟨qs, fs, k2⟩ := args_lv K hdt ha (fun j t' v' hj hv => hk (j + 1) t' v' (by simpa using hj) (by simpa using hv)) h2 (fun y hy => hw y (.inr hy))
      exact ⟨q1 :: qs, f1 ++ fs, .rd k1 k2⟩

theorem sameAt_fr (h : Fr W [] W') {p : MemPlace} (hp : p.block < W.heap.size) : W.sameAt W' p := by
  have hb := h.block p.block hp (by simp)
  cases p with
  | cell b o => simp only [World.sameAt, World.cell?]; rw [show W'.heap[b]? = W.heap[b]? from hb]
  | map b => exact hb

theorem trodAll_fr (h : Fr W [] W') {sp : Nat → Bool} : ∀ {ts : List TypeId} {vs : List Value} {ds : List (DataW H)} {ps : List MemPlace}, DataW.TrodAll enc P W 0 sp true ts vs ds ps → (∀ p ∈ ps, p.block < W.heap.size) → DataW.TrodAll enc P W' 0 sp true ts vs ds ps
  | [], [], [], _, h0, _ => h0
  | [], [], _ :: _, _, h0, _ => h0.elim
  | [], _ :: _, _, _, h0, _ => h0.elim
  | _ :: _, [], _, _, h0, _ => h0.elim
  | _ :: _, _ :: _, [], _, h0, _ => h0.elim
  | t :: ts, v :: vs, d :: ds, _, ⟨p, q, ⟨n, h1⟩, h2, e⟩, hl => by
    subst e
    exact ⟨p, q, ⟨n, DataW.trod_carry n t _ _ h1 fun x hx => sameAt_fr h (hl x (List.mem_append_left _ hx))⟩, trodAll_fr h h2 fun x hx => hl x (List.mem_append_right _ hx), rfl⟩

theorem keptBut_fr (h : Fr W [] W') (may : MemPlace → Prop) : W.keptBut W' may := by
  refine ⟨h.os, h.output, fun i hi => ?_⟩
  rw [h.block i hi (by simp)]
  have := (World.keptBut_refl W may).2.2 i hi
  exact this

/-- A law's contract is its row's. -/
theorem law_post {fn : Func} {f : FuncId} {s : ChangeSpec} {c : FSpec} {tb : Nat} {base : Nat} {args : Array Value} {ds gs : List (DataW H)} {before : List MemPlace} (hl : laidOutB P = true) (hmr : mapsRowed P = true)
    (hsl : ((List.range P.types.size).all fun t => match P.underlying t with | some (.slice e) => decide (0 < P.cellsOf e) | _ => true) = true)
    (hdt : ∀ t g l, Dat P t g l → t < P.types.size) (hm : Meets P f c) (hG : GlOk W []) (ha : ArgTys P fn.params.toList c.args) (hpar : ∀ t ∈ fn.params.toList, t < P.types.size) (hb : P.underlying tb = some .bool) (hres : fn.resultTypes = #[tb])
    (hv : s.vars = []) (hfn : ∀ H ds, ds.length = fn.params.size → (s.fn H ds).results = [.lit (.bool true)] ∧ (s.fn H ds).args = ds ∧ (s.fn H ds).vars = [])
    (hc : c.ret = [.bool] ∧ c.fresh = true ∧ (∀ ps, c.pre ps) ∧ ∀ ps, c.res ps = [.bool true]) (hrd : allRd c.args = true)
    (hval : ∀ (j : Nat) t v, fn.params[j]? = some t → args[j]? = some v → Value.okWide P W .any base t v)
    (hW : DataW.Whole enc P fn.params.toList s.vars false W args.toList ds gs before)
    (hwt : (DataW.weightsEach P (fn.params.toList ++ s.plain.varTypes P) (ds ++ gs)).all (· ≤ reachBytes) = true) :
    Calls P f args W fun e W' => ∃ v, e = .returned v ∧ s.post enc P fn false true false false W args v W' := by
  have hW' := hW
  have hlt := hW.lt
  obtain ⟨p, q, hA, hV, rfl, hfz, _⟩ := hW
  rw [hv] at hV
  have hg : gs = [] ∧ q = [] := by
    cases gs with
    | nil => exact ⟨rfl, hV⟩
    | cons _ _ => exact hV.elim
  obtain ⟨rfl, rfl⟩ := hg
  have hdl : ∀ {ts : List TypeId} {vs : List Value} {ds : List (DataW H)} {ps : List MemPlace}, DataW.TrodAll enc P W 0 (fun _ => true) true ts vs ds ps → ds.length = ts.length := by
    intro ts
    induction ts with
    | nil => intro vs ds ps h; cases vs <;> cases ds <;> simp [DataW.TrodAll] at h ⊢
    | cons t ts ih => intro vs ds ps h; cases vs <;> cases ds <;> simp [DataW.TrodAll] at h ⊢; obtain ⟨_, _, _, h2, _⟩ := h; exact ih h2
  have hlen := hdl hA
  have hvt : s.plain.varTypes P = [] := by simp [ChangeSpec.plain, DataSpec.varTypes, hv]
  simp only [List.append_nil, hvt] at hwt hW'
  have K := kids_rows hl hmr
  obtain ⟨qs, fs, hargs⟩ := args_lv K hdt ha (fun j t v hj hv' => hval j t v (by simpa using hj) (by simpa using hv')) hA (fun y hy => by simpa using List.all_eq_true.1 hwt y hy)
  obtain ⟨c1, c2, c3, c4⟩ := hc
  obtain ⟨r1, r2, r3⟩ := hfn H ds (by simpa using hlen)
  have hcall := hm W qs _ fs fs [] hargs (by simp) (by simp) (c3 qs) hG
  simp only [Array.toArray_toList] at hcall
  refine hcall.mono fun e W' he => ?_
  obtain ⟨rvs, rfl, hFr, hcase⟩ := he
  have hret : ∃ fr, RetVs W' c.ret (c.res qs) rvs fr := by
    rcases hcase with ⟨_, fr, mo, h, _⟩ | ⟨h, _⟩
    · exact ⟨fr, h⟩
    · rw [c2] at h; cases h
  obtain ⟨fr, hret⟩ := hret
  rw [c1, c4] at hret
  have hrv : rvs = [.bool true] := by
    cases hret with
    | cons h1 h2 =>
      cases h2
      obtain ⟨fs', h1, _⟩ := h1
      cases h1 with
      | bool h => cases h; rfl
  subst hrv
  have hsame : ∀ sp : Nat → Bool, (∀ x ∈ p, sp x.block = true) → DataW.TrodAll enc P W' 0 sp true fn.params.toList args.toList ds p := fun sp hsp =>
    trodAll_fr hFr (hA.respare (T := (· < P.types.size)) K (fun t e ht => slices_full_of P hsl t e ht) hpar hsp) (fun x hx => hlt x (by simp [hx]))
  refine ⟨_, rfl, ds, [], p, [], p, [], by simpa using hW', ?_, ?_, ?_, keptBut_fr hFr _, fun h => by cases h⟩
  · simp only [List.append_nil, r1, hres]
    exact trodAll_cons_mk (shut_bool hb _) trodAll_mk0
  · simp only [List.append_nil, r2]
    exact hsame _ fun x hx => by simpa using hlt x (by simp [hx])
  · simp only [List.append_nil, r3, hv]; rfl

end
end Go.Proofs.YtolgjekokdimoaaDoor
end

section
namespace Go.Proofs.YtolgjekokdimoaaDoor
variable [LaidG]
set_option maxRecDepth 100000

theorem lt2 : 2 < Tryd.prog.types.size := of_decide_eq_true (by kernel_rfl)
theorem D2 : Dat Tryd.prog 2 false [.int .i64] := .int Tryd.underlying2 lt2
theorem lt3 : 3 < Tryd.prog.types.size := of_decide_eq_true (by kernel_rfl)
theorem D3 : Dat Tryd.prog 3 false [.int .i64] := .int Tryd.underlying3 lt3
theorem lt4 : 4 < Tryd.prog.types.size := of_decide_eq_true (by kernel_rfl)
theorem D4 : Dat Tryd.prog 4 false [.bool] := .bool Tryd.underlying4 lt4
theorem lt5 : 5 < Tryd.prog.types.size := of_decide_eq_true (by kernel_rfl)
theorem D5 : Dat Tryd.prog 5 false [.int .u8] := .int Tryd.underlying5 lt5
theorem lt6 : 6 < Tryd.prog.types.size := of_decide_eq_true (by kernel_rfl)
theorem D6 : Dat Tryd.prog 6 false [.int .u8] := .int Tryd.underlying6 lt6
theorem lt7 : 7 < Tryd.prog.types.size := of_decide_eq_true (by kernel_rfl)
theorem D7 : Dat Tryd.prog 7 true [.int .i64, .int .i64, .bool, .int .u8] := .struct Tryd.underlying7 (.cons (l := [.int .i64]) (m := [.int .i64, .bool, .int .u8]) D2 (by kernel_rfl) (.cons (l := [.int .i64]) (m := [.bool, .int .u8]) D3 (by kernel_rfl) (.cons (l := [.bool]) (m := [.int .u8]) D4 (by kernel_rfl) (.cons (l := [.int .u8]) (m := []) D6 (by kernel_rfl) .nil)))) (by kernel_rfl) lt7
theorem lt8 : 8 < Tryd.prog.types.size := of_decide_eq_true (by kernel_rfl)
theorem D8 : Dat Tryd.prog 8 true [.int .i64, .int .i64, .bool, .int .u8] := .struct Tryd.underlying8 (.cons (l := [.int .i64]) (m := [.int .i64, .bool, .int .u8]) D2 (by kernel_rfl) (.cons (l := [.int .i64]) (m := [.bool, .int .u8]) D3 (by kernel_rfl) (.cons (l := [.bool]) (m := [.int .u8]) D4 (by kernel_rfl) (.cons (l := [.int .u8]) (m := []) D6 (by kernel_rfl) .nil)))) (by kernel_rfl) lt8
theorem lt9 : 9 < Tryd.prog.types.size := of_decide_eq_true (by kernel_rfl)
theorem D9 : Dat Tryd.prog 9 false [.str] := .str Tryd.underlying9 lt9
theorem lt10 : 10 < Tryd.prog.types.size := of_decide_eq_true (by kernel_rfl)
theorem D10 : Dat Tryd.prog 10 false [.str] := .str Tryd.underlying10 lt10
theorem lt11 : 11 < Tryd.prog.types.size := of_decide_eq_true (by kernel_rfl)
theorem D11 : Dat Tryd.prog 11 false [.str] := .str Tryd.underlying11 lt11
theorem lt12 : 12 < Tryd.prog.types.size := of_decide_eq_true (by kernel_rfl)
theorem D12 : Dat Tryd.prog 12 false [.int .u64] := .int Tryd.underlying12 lt12
theorem lt13 : 13 < Tryd.prog.types.size := of_decide_eq_true (by kernel_rfl)
theorem D13 : Dat Tryd.prog 13 true [.str, .int .u64] := .struct Tryd.underlying13 (.cons (l := [.str]) (m := [.int .u64]) D9 (by kernel_rfl) (.cons (l := [.int .u64]) (m := []) D12 (by kernel_rfl) .nil)) (by kernel_rfl) lt13
theorem lt14 : 14 < Tryd.prog.types.size := of_decide_eq_true (by kernel_rfl)
theorem D14 : Dat Tryd.prog 14 true [.str, .int .u64] := .struct Tryd.underlying14 (.cons (l := [.str]) (m := [.int .u64]) D9 (by kernel_rfl) (.cons (l := [.int .u64]) (m := []) D12 (by kernel_rfl) .nil)) (by kernel_rfl) lt14
theorem lt21 : 21 < Tryd.prog.types.size := of_decide_eq_true (by kernel_rfl)
theorem D21 : Dat Tryd.prog 21 false [.int .i32] := .int Tryd.underlying21 lt21
theorem lt25 : 25 < Tryd.prog.types.size := of_decide_eq_true (by kernel_rfl)
theorem D25 : Dat Tryd.prog 25 false [.list (.str)] := .slice (e := 9) (g := false) (l := [.str]) Tryd.underlying25 D9 (by kernel_rfl) (by decide) (of_decide_eq_true (by kernel_rfl)) lt25
theorem lt26 : 26 < Tryd.prog.types.size := of_decide_eq_true (by kernel_rfl)
theorem D26 : Dat Tryd.prog 26 true [.int .i64, .int .i64, .int .i64, .list (.str)] := .struct Tryd.underlying26 (.cons (l := [.int .i64]) (m := [.int .i64, .int .i64, .list (.str)]) D3 (by kernel_rfl) (.cons (l := [.int .i64]) (m := [.int .i64, .list (.str)]) D3 (by kernel_rfl) (.cons (l := [.int .i64]) (m := [.list (.str)]) D3 (by kernel_rfl) (.cons (l := [.list (.str)]) (m := []) D25 (by kernel_rfl) .nil)))) (by kernel_rfl) lt26
theorem lt27 : 27 < Tryd.prog.types.size := of_decide_eq_true (by kernel_rfl)
theorem D27 : Dat Tryd.prog 27 true [.int .i64, .int .i64, .int .i64, .list (.str)] := .struct Tryd.underlying27 (.cons (l := [.int .i64]) (m := [.int .i64, .int .i64, .list (.str)]) D3 (by kernel_rfl) (.cons (l := [.int .i64]) (m := [.int .i64, .list (.str)]) D3 (by kernel_rfl) (.cons (l := [.int .i64]) (m := [.list (.str)]) D3 (by kernel_rfl) (.cons (l := [.list (.str)]) (m := []) D25 (by kernel_rfl) .nil)))) (by kernel_rfl) lt27
theorem lt28 : 28 < Tryd.prog.types.size := of_decide_eq_true (by kernel_rfl)
theorem D28 : Dat Tryd.prog 28 true [.int .i64, .str, .str, .int .i64, .int .i64, .int .i64, .list (.str)] := .struct Tryd.underlying28 (.cons (l := [.int .i64]) (m := [.str, .str, .int .i64, .int .i64, .int .i64, .list (.str)]) D3 (by kernel_rfl) (.cons (l := [.str]) (m := [.str, .int .i64, .int .i64, .int .i64, .list (.str)]) D9 (by kernel_rfl) (.cons (l := [.str]) (m := [.int .i64, .int .i64, .int .i64, .list (.str)]) D9 (by kernel_rfl) (.cons (l := [.int .i64, .int .i64, .int .i64, .list (.str)]) (m := []) D27 (by kernel_rfl) .nil)))) (by kernel_rfl) lt28
theorem lt29 : 29 < Tryd.prog.types.size := of_decide_eq_true (by kernel_rfl)
theorem D29 : Dat Tryd.prog 29 true [.int .i64, .str, .str, .int .i64, .int .i64, .int .i64, .list (.str)] := .struct Tryd.underlying29 (.cons (l := [.int .i64]) (m := [.str, .str, .int .i64, .int .i64, .int .i64, .list (.str)]) D3 (by kernel_rfl) (.cons (l := [.str]) (m := [.str, .int .i64, .int .i64, .int .i64, .list (.str)]) D9 (by kernel_rfl) (.cons (l := [.str]) (m := [.int .i64, .int .i64, .int .i64, .list (.str)]) D9 (by kernel_rfl) (.cons (l := [.int .i64, .int .i64, .int .i64, .list (.str)]) (m := []) D27 (by kernel_rfl) .nil)))) (by kernel_rfl) lt29
theorem lt35 : 35 < Tryd.prog.types.size := of_decide_eq_true (by kernel_rfl)
theorem D35 : Dat Tryd.prog 35 true [.int .i64, .int .i64, .int .i64, .list (.str)] := .struct Tryd.underlying35 (.cons (l := [.int .i64]) (m := [.int .i64, .int .i64, .list (.str)]) D3 (by kernel_rfl) (.cons (l := [.int .i64]) (m := [.int .i64, .list (.str)]) D3 (by kernel_rfl) (.cons (l := [.int .i64]) (m := [.list (.str)]) D3 (by kernel_rfl) (.cons (l := [.list (.str)]) (m := []) D25 (by kernel_rfl) .nil)))) (by kernel_rfl) lt35
theorem lt36 : 36 < Tryd.prog.types.size := of_decide_eq_true (by kernel_rfl)
theorem D36 : Dat Tryd.prog 36 true [.int .i64, .str, .str, .int .i64, .int .i64, .int .i64, .list (.str)] := .struct Tryd.underlying36 (.cons (l := [.int .i64]) (m := [.str, .str, .int .i64, .int .i64, .int .i64, .list (.str)]) D3 (by kernel_rfl) (.cons (l := [.str]) (m := [.str, .int .i64, .int .i64, .int .i64, .list (.str)]) D9 (by kernel_rfl) (.cons (l := [.str]) (m := [.int .i64, .int .i64, .int .i64, .list (.str)]) D9 (by kernel_rfl) (.cons (l := [.int .i64, .int .i64, .int .i64, .list (.str)]) (m := []) D35 (by kernel_rfl) .nil)))) (by kernel_rfl) lt36
theorem lt37 : 37 < Tryd.prog.types.size := of_decide_eq_true (by kernel_rfl)
theorem D37 : Dat Tryd.prog 37 true [.int .i64, .str, .str, .int .i64, .int .i64, .int .i64, .list (.str)] := .struct Tryd.underlying37 (.cons (l := [.int .i64]) (m := [.str, .str, .int .i64, .int .i64, .int .i64, .list (.str)]) D3 (by kernel_rfl) (.cons (l := [.str]) (m := [.str, .int .i64, .int .i64, .int .i64, .list (.str)]) D9 (by kernel_rfl) (.cons (l := [.str]) (m := [.int .i64, .int .i64, .int .i64, .list (.str)]) D9 (by kernel_rfl) (.cons (l := [.int .i64, .int .i64, .int .i64, .list (.str)]) (m := []) D35 (by kernel_rfl) .nil)))) (by kernel_rfl) lt37
theorem lt42 : 42 < Tryd.prog.types.size := of_decide_eq_true (by kernel_rfl)
theorem D42 : Dat Tryd.prog 42 true [.int .i64, .int .i64, .int .i64, .int .i64, .int .i64, .int .i64, .bool, .str, .str] := .struct Tryd.underlying42 (.cons (l := [.int .i64]) (m := [.int .i64, .int .i64, .int .i64, .int .i64, .int .i64, .bool, .str, .str]) D3 (by kernel_rfl) (.cons (l := [.int .i64]) (m := [.int .i64, .int .i64, .int .i64, .int .i64, .bool, .str, .str]) D3 (by kernel_rfl) (.cons (l := [.int .i64]) (m := [.int .i64, .int .i64, .int .i64, .bool, .str, .str]) D3 (by kernel_rfl) (.cons (l := [.int .i64]) (m := [.int .i64, .int .i64, .bool, .str, .str]) D3 (by kernel_rfl) (.cons (l := [.int .i64]) (m := [.int .i64, .bool, .str, .str]) D3 (by kernel_rfl) (.cons (l := [.int .i64]) (m := [.bool, .str, .str]) D3 (by kernel_rfl) (.cons (l := [.bool]) (m := [.str, .str]) D4 (by kernel_rfl) (.cons (l := [.str]) (m := [.str]) D9 (by kernel_rfl) (.cons (l := [.str]) (m := []) D9 (by kernel_rfl) .nil))))))))) (by kernel_rfl) lt42
theorem lt43 : 43 < Tryd.prog.types.size := of_decide_eq_true (by kernel_rfl)
theorem D43 : Dat Tryd.prog 43 true [.int .i64, .int .i64, .int .i64, .int .i64, .int .i64, .int .i64, .bool, .str, .str] := .struct Tryd.underlying43 (.cons (l := [.int .i64]) (m := [.int .i64, .int .i64, .int .i64, .int .i64, .int .i64, .bool, .str, .str]) D3 (by kernel_rfl) (.cons (l := [.int .i64]) (m := [.int .i64, .int .i64, .int .i64, .int .i64, .bool, .str, .str]) D3 (by kernel_rfl) (.cons (l := [.int .i64]) (m := [.int .i64, .int .i64, .int .i64, .bool, .str, .str]) D3 (by kernel_rfl) (.cons (l := [.int .i64]) (m := [.int .i64, .int .i64, .bool, .str, .str]) D3 (by kernel_rfl) (.cons (l := [.int .i64]) (m := [.int .i64, .bool, .str, .str]) D3 (by kernel_rfl) (.cons (l := [.int .i64]) (m := [.bool, .str, .str]) D3 (by kernel_rfl) (.cons (l := [.bool]) (m := [.str, .str]) D4 (by kernel_rfl) (.cons (l := [.str]) (m := [.str]) D9 (by kernel_rfl) (.cons (l := [.str]) (m := []) D9 (by kernel_rfl) .nil))))))))) (by kernel_rfl) lt43
theorem lt63 : 63 < Tryd.prog.types.size := of_decide_eq_true (by kernel_rfl)
theorem D63 : Dat Tryd.prog 63 false [.list (.int .i64)] := .slice (e := 3) (g := false) (l := [.int .i64]) Tryd.underlying63 D3 (by kernel_rfl) (by decide) (of_decide_eq_true (by kernel_rfl)) lt63
theorem lt91 : 91 < Tryd.prog.types.size := of_decide_eq_true (by kernel_rfl)
theorem D91 : Dat Tryd.prog 91 false [.list (.int .u8)] := .slice (e := 5) (g := false) (l := [.int .u8]) Tryd.underlying91 D5 (by kernel_rfl) (by decide) (of_decide_eq_true (by kernel_rfl)) lt91
theorem lt93 : 93 < Tryd.prog.types.size := of_decide_eq_true (by kernel_rfl)
theorem D93 : Dat Tryd.prog 93 false [.int .u64] := .int Tryd.underlying93 lt93
theorem lt96 : 96 < Tryd.prog.types.size := of_decide_eq_true (by kernel_rfl)
theorem D96 : Dat Tryd.prog 96 true [.int .i64, .int .i64] := .struct Tryd.underlying96 (.cons (l := [.int .i64]) (m := [.int .i64]) D3 (by kernel_rfl) (.cons (l := [.int .i64]) (m := []) D3 (by kernel_rfl) .nil)) (by kernel_rfl) lt96
theorem lt97 : 97 < Tryd.prog.types.size := of_decide_eq_true (by kernel_rfl)
theorem D97 : Dat Tryd.prog 97 true [.int .i64, .int .i64] := .struct Tryd.underlying97 (.cons (l := [.int .i64]) (m := [.int .i64]) D3 (by kernel_rfl) (.cons (l := [.int .i64]) (m := []) D3 (by kernel_rfl) .nil)) (by kernel_rfl) lt97
theorem lt102 : 102 < Tryd.prog.types.size := of_decide_eq_true (by kernel_rfl)
theorem D102 : Dat Tryd.prog 102 false [.int .u32] := .int Tryd.underlying102 lt102
theorem lt103 : 103 < Tryd.prog.types.size := of_decide_eq_true (by kernel_rfl)
theorem D103 : Dat Tryd.prog 103 false [.list (.int .u32)] := .slice (e := 102) (g := false) (l := [.int .u32]) Tryd.underlying103 D102 (by kernel_rfl) (by decide) (of_decide_eq_true (by kernel_rfl)) lt103
theorem lt112 : 112 < Tryd.prog.types.size := of_decide_eq_true (by kernel_rfl)
theorem D112 : Dat Tryd.prog 112 false [.int .i64] := .int Tryd.underlying112 lt112
theorem lt124 : 124 < Tryd.prog.types.size := of_decide_eq_true (by kernel_rfl)
theorem D124 : Dat Tryd.prog 124 false [.int .u64] := .int Tryd.underlying124 lt124
theorem lt156 : 156 < Tryd.prog.types.size := of_decide_eq_true (by kernel_rfl)
theorem D156 : Dat Tryd.prog 156 true [.str] := .struct Tryd.underlying156 (.cons (l := [.str]) (m := []) D9 (by kernel_rfl) .nil) (by kernel_rfl) lt156
theorem lt157 : 157 < Tryd.prog.types.size := of_decide_eq_true (by kernel_rfl)
theorem D157 : Dat Tryd.prog 157 true [.str] := .struct Tryd.underlying157 (.cons (l := [.str]) (m := []) D9 (by kernel_rfl) .nil) (by kernel_rfl) lt157
theorem lt159 : 159 < Tryd.prog.types.size := of_decide_eq_true (by kernel_rfl)
theorem D159 : Dat Tryd.prog 159 true [.int .u8, .int .u8] := .struct Tryd.underlying159 (.cons (l := [.int .u8]) (m := [.int .u8]) D5 (by kernel_rfl) (.cons (l := [.int .u8]) (m := []) D5 (by kernel_rfl) .nil)) (by kernel_rfl) lt159
theorem lt160 : 160 < Tryd.prog.types.size := of_decide_eq_true (by kernel_rfl)
theorem D160 : Dat Tryd.prog 160 true [.int .u8, .int .u8] := .struct Tryd.underlying160 (.cons (l := [.int .u8]) (m := [.int .u8]) D5 (by kernel_rfl) (.cons (l := [.int .u8]) (m := []) D5 (by kernel_rfl) .nil)) (by kernel_rfl) lt160
theorem lt174 : 174 < Tryd.prog.types.size := of_decide_eq_true (by kernel_rfl)
theorem D174 : Dat Tryd.prog 174 false [.int .u8] := .int Tryd.underlying174 lt174
theorem lt175 : 175 < Tryd.prog.types.size := of_decide_eq_true (by kernel_rfl)
theorem D175 : Dat Tryd.prog 175 false [.int .u8] := .int Tryd.underlying175 lt175
theorem lt177 : 177 < Tryd.prog.types.size := of_decide_eq_true (by kernel_rfl)
theorem D177 : Dat Tryd.prog 177 false [.int .i32] := .int Tryd.underlying177 lt177
theorem lt178 : 178 < Tryd.prog.types.size := of_decide_eq_true (by kernel_rfl)
theorem D178 : Dat Tryd.prog 178 false [.int .i32] := .int Tryd.underlying178 lt178

theorem dat_lt : ∀ t g l, Dat Tryd.prog t g l → t < Tryd.prog.types.size := fun _ _ _ h => h.lt
theorem laid_all : laidOutB Tryd.prog = true := by kernel_rfl
theorem rowed_all : mapsRowed Tryd.prog = true := by kernel_rfl
theorem slices_all : ((List.range Tryd.prog.types.size).all fun t => match Tryd.prog.underlying t with | some (.slice e) => decide (0 < Tryd.prog.cellsOf e) | _ => true) = true := by kernel_rfl
theorem own_knob : ownKnob Tryd.prog.godebug = none := by kernel_rfl

end Go.Proofs.YtolgjekokdimoaaDoor
end

section
namespace Go.Proofs.YtolgjekokdimoaaDoor
variable [LaidG]
open Go.ChangeShapes Go.WideShapes Go.ChangeAt Go.RowKit
set_option linter.unusedVariables false
set_option maxRecDepth 100000
section
variable {H : Type} {enc : TypeId × Value → H} {P : Program} {W W' : World}

theorem laid_mem {name : String} {k : IntKind} {zs : List Int} {g t e n : Nat} (hg : P.globalNamed name = some g) (hty : (P.globals[g]?).map (·.type) = some t) (ht : P.underlying t = some (.array n e)) (he : P.underlying e = some (.int k)) (hce : P.cellsOf e = 1) (hct : P.cellsOf t = n) :
    ∀ {laid : List (String × DataW Unit)} {ps : List MemPlace}, DataW.LaidVars P W laid ps → (name, Lib.tabData k zs) ∈ laid →
      ∃ cs, W.var? P name = some cs ∧ cs.toList = (zs.map fun z => Value.int k z) ∧ ∀ x ∈ MemPlace.row ⟨g, 0, none⟩ cs.size, x ∈ ps
  | [], ps, h, hm => by simp at hm
  | (m, d) :: r, ps, h, hm => by
    obtain ⟨g', t', cs, fuel, p, q, hg', ht', hvar, hd, hr, rfl⟩ := h
    rcases List.mem_cons.1 hm with hm | hm
    · obtain ⟨rfl, rfl⟩ := Prod.mk.inj hm
      obtain rfl := Option.some.inj (hg.symm.trans hg')
      obtain rfl := Option.some.inj (hty.symm.trans ht')
      exact ⟨cs, hvar, Lib.cells_of_tab ht he hce hct hd, fun x hx => by simp [hx]⟩
    · obtain ⟨cs', q1, q2, q3⟩ := laid_mem hg hty ht he hce hct hr hm
      exact ⟨cs', q1, q2, fun x hx => by simp [q3 x hx]⟩

theorem lv_intsZ {k : IntKind} : ∀ {zs : List Int}, (∀ z ∈ zs, inR k z) → Lv W (flatT (.int k) zs.length) (flatP (zs.map (PV.int k))) (zs.map fun z => Value.int k z) []
  | [], _ => .nil
  | z :: zs, h => .int (h z (by simp)) (lv_intsZ (zs := zs) fun x hx => h x (by simp [hx]))

theorem gl_one {name : String} {k : IntKind} {z0 : Int} {zs : List Int} {g t e n : Nat} {laid : List (String × DataW Unit)} (h : laidMet P laid W) (hm : (name, Lib.tabData k (z0 :: zs)) ∈ laid) (hg : P.globalNamed name = some g) (hty : (P.globals[g]?).map (·.type) = some t) (ht : P.underlying t = some (.array n e)) (he : P.underlying e = some (.int k)) (hce : P.cellsOf e = 1) (hct : P.cellsOf t = n)
    (hr : ∀ z ∈ z0 :: zs, inR k z) :
    g ∉ ([] : List Nat) ∧ ∃ c t, W.heap[g]? = some (.cells c t (0, 0)) ∧ flatB (.int k) = true ∧ (∀ e ∈ (z0 :: zs).map (PV.int k), Shp (.int k) e) ∧ Lv W (flatT (.int k) ((z0 :: zs).map (PV.int k)).length) (flatP ((z0 :: zs).map (PV.int k))) c.toList [] := by
  obtain ⟨ps, hL, _, hz⟩ := h
  obtain ⟨cs, q1, q2, q3⟩ := laid_mem hg hty ht he hce hct hL hm
  have hpos : 0 < cs.size := by rw [← Array.length_toList, q2]; simp
  obtain ⟨⟨c, t', hc⟩, _⟩ := hz g 0 (q3 _ (by simp [MemPlace.row]; exact hpos))
  have e : c = cs := by
    unfold World.var? at q1
    rw [hg] at q1
    have q1 : (match W.heap[g]? with | some (.cells cs _ _) => some cs | _ => none) = some cs := q1
    rw [hc] at q1
    exact Option.some.inj q1
  subst e
  refine ⟨by simp, c, t', hc, rfl, fun e he => ?_, ?_⟩
  · obtain ⟨z, hz', rfl⟩ := List.mem_map.1 he
    intro qs h; cases h
  · rw [q2, List.length_map]; exact lv_intsZ hr

theorem lt_of_name {ns : List String} (hall : (ns.all fun n => match (P.globalNamed n).bind fun g => (P.globals[g]?).map (·.type) with | some t => decide (t < P.types.size) | none => true) = true) {n : String} {g t : Nat} (hn : n ∈ ns) (hg : P.globalNamed n = some g) (ht : (P.globals[g]?).map (·.type) = some t) : t < P.types.size := by
  have h := List.all_eq_true.1 hall n hn
  have e : ((P.globalNamed n).bind fun g => (P.globals[g]?).map (·.type)) = some t := by rw [hg]; exact ht
  rw [e] at h
  exact of_decide_eq_true h
theorem var_fr (h : Fr W [] W') {n : String} {cs : Array Value} (hv : W.var? P n = some cs) : W'.var? P n = some cs := by
  unfold World.var? at hv ⊢
  cases hg : P.globalNamed n with
  | none => rw [hg] at hv; cases hv
  | some g =>
    rw [hg] at hv
    show (match W'.heap[g]? with | some (.cells cs _ _) => some cs | _ => none) = _
    have hv : (match W.heap[g]? with | some (.cells cs _ _) => some cs | _ => none) = some cs := hv
    cases hb : W.heap[g]? with
    | none => rw [hb] at hv; cases hv
    | some o =>
      rw [h.block g (Array.getElem?_eq_some_iff.1 hb).1 (by simp)]
      exact hv

theorem weights_pre {y : Nat} : ∀ {ts us : List TypeId} {ds gs : List (DataW H)}, y ∈ DataW.weightsEach P ts ds → y ∈ DataW.weightsEach P (ts ++ us) (ds ++ gs)
  | [], us, ds, gs, h => by cases ds <;> simp [DataW.weightsEach] at h
  | t :: ts, us, [], gs, h => by simp [DataW.weightsEach] at h
  | t :: ts, us, d :: ds, gs, h => by
    simp only [List.cons_append, DataW.weightsEach, List.mem_append] at h ⊢
    exact h.imp id weights_pre

theorem trodVars_len {sp : Nat → Bool} : ∀ {ns : List String} {gs : List (DataW H)} {ps : List MemPlace}, DataW.TrodVars enc P W sp ns gs ps → gs.length = ns.length
  | [], [], _, _ => rfl
  | [], _ :: _, _, h => h.elim
  | _ :: _, [], _, h => h.elim
  | n :: ns, d :: gs, ps, ⟨g, t, cs, fuel, p, q, _, _, _, _, h, _⟩ => by simp [trodVars_len h]

theorem trodVars_fr (K : Kids P (· < P.types.size)) (hsl : ((List.range P.types.size).all fun t => match P.underlying t with | some (.slice e) => decide (0 < P.cellsOf e) | _ => true) = true) (h : Fr W [] W') :
    ∀ {ns : List String} {gs : List (DataW H)} {ps : List MemPlace}, (∀ n ∈ ns, ∀ g t, P.globalNamed n = some g → (P.globals[g]?).map (·.type) = some t → t < P.types.size) → DataW.TrodVars enc P W (fun _ => true) ns gs ps → (∀ x ∈ ps, x.block < W.heap.size) → DataW.TrodVars enc P W' (fun b => decide (b < W.heap.size)) ns gs ps
  | [], [], _, _, h0, _ => h0
  | [], _ :: _, _, _, h0, _ => h0.elim
  | _ :: _, [], _, _, h0, _ => h0.elim
  | n :: ns, d :: gs, ps, hn, ⟨g, t, cs, fuel, p, q, h1, h2, h3, h4, h5, e⟩, hl => by
    subst e
    refine ⟨g, t, cs, fuel, p, q, h1, h2, var_fr h h3, ?_, trodVars_fr K hsl h (fun m hm => hn m (by simp [hm])) h5 fun x hx => hl x (by simp [hx]), rfl⟩
    have h6 := DataW.trod_respare (spare' := fun b => decide (b < W.heap.size)) K (fun t e ht => slices_full_of P hsl t e ht) fuel t cs.toList _ (hn n (by simp) g t h1 h2) h4 (fun x hx => by simpa using hl x (by simp [hx]))
    exact DataW.trod_carry fuel t _ _ h6 fun x hx => sameAt_fr h (hl x (by simp [hx]))

/-- A law's contract is its row's, where the row lists package variables. -/
theorem law_postV {fn : Func} {f : FuncId} {s : ChangeSpec} {c : FSpec} {tb : Nat} {base : Nat} {args : Array Value} {ds gs : List (DataW H)} {before : List MemPlace} (hl : laidOutB P = true) (hmr : mapsRowed P = true)
    (hsl : ((List.range P.types.size).all fun t => match P.underlying t with | some (.slice e) => decide (0 < P.cellsOf e) | _ => true) = true)
    (hdt : ∀ t g l, Dat P t g l → t < P.types.size) (hm : Meets P f c) (hG : GlOk W []) (ha : ArgTys P fn.params.toList c.args) (hpar : ∀ t ∈ fn.params.toList, t < P.types.size) (hb : P.underlying tb = some .bool) (hres : fn.resultTypes = #[tb])
    (hv : ∀ n ∈ s.vars, ∀ g t, P.globalNamed n = some g → (P.globals[g]?).map (·.type) = some t → t < P.types.size)
    (hfn : ∀ H ds gs, ds.length = fn.params.size → gs.length = s.vars.length → (s.fn H (ds ++ gs)).results = [.lit (.bool true)] ∧ (s.fn H (ds ++ gs)).args = ds ∧ (s.fn H (ds ++ gs)).vars = gs)
    (hc : c.ret = [.bool] ∧ c.fresh = true ∧ (∀ ps, c.pre ps) ∧ ∀ ps, c.res ps = [.bool true]) (hrd : allRd c.args = true)
    (hval : ∀ (j : Nat) t v, fn.params[j]? = some t → args[j]? = some v → Value.okWide P W .any base t v)
    (hW : DataW.Whole enc P fn.params.toList s.vars false W args.toList ds gs before)
    (hwt : (DataW.weightsEach P (fn.params.toList ++ s.plain.varTypes P) (ds ++ gs)).all (· ≤ reachBytes) = true) :
    Calls P f args W fun e W' => ∃ v, e = .returned v ∧ s.post enc P fn false true false false W args v W' := by
  have hW' := hW
  have hlt := hW.lt
  obtain ⟨p, q, hA, hV, rfl, hfz, _⟩ := hW
  have hdl : ∀ {ts : List TypeId} {vs : List Value} {ds : List (DataW H)} {ps : List MemPlace}, DataW.TrodAll enc P W 0 (fun _ => true) true ts vs ds ps → ds.length = ts.length := by
    intro ts
    induction ts with
    | nil => intro vs ds ps h; cases vs <;> cases ds <;> simp [DataW.TrodAll] at h ⊢
    | cons t ts ih => intro vs ds ps h; cases vs <;> cases ds <;> simp [DataW.TrodAll] at h ⊢; obtain ⟨_, _, _, h2, _⟩ := h; exact ih h2
  have hlen := hdl hA
  have K := kids_rows hl hmr
  obtain ⟨qs, fs, hargs⟩ := args_lv K hdt ha (fun j t v hj hv' => hval j t v (by simpa using hj) (by simpa using hv')) hA (fun y hy => by simpa using List.all_eq_true.1 hwt y (weights_pre hy))
  obtain ⟨c1, c2, c3, c4⟩ := hc
  obtain ⟨r1, r2, r3⟩ := hfn H ds gs (by simpa using hlen) (trodVars_len hV)
  have hcall := hm W qs _ fs fs [] hargs (by simp) (by simp) (c3 qs) hG
  simp only [Array.toArray_toList] at hcall
  refine hcall.mono fun e W' he => ?_
  obtain ⟨rvs, rfl, hFr, hcase⟩ := he
  have hret : ∃ fr, RetVs W' c.ret (c.res qs) rvs fr := by
    rcases hcase with ⟨_, fr, mo, h, _⟩ | ⟨h, _⟩
    · exact ⟨fr, h⟩
    · rw [c2] at h; cases h
  obtain ⟨fr, hret⟩ := hret
  rw [c1, c4] at hret
  have hrv : rvs = [.bool true] := by
    cases hret with
    | cons h1 h2 =>
      cases h2
      obtain ⟨fs', h1, _⟩ := h1
      cases h1 with
      | bool h => cases h; rfl
  subst hrv
  have hsame : ∀ sp : Nat → Bool, (∀ x ∈ p, sp x.block = true) → DataW.TrodAll enc P W' 0 sp true fn.params.toList args.toList ds p := fun sp hsp =>
    trodAll_fr hFr (hA.respare (T := (· < P.types.size)) K (fun t e ht => slices_full_of P hsl t e ht) hpar hsp) (fun x hx => hlt x (by simp [hx]))
  refine ⟨_, rfl, ds, gs, p ++ q, [], p, q, hW', ?_, ?_, ?_, keptBut_fr hFr _, fun h => by cases h⟩
  · simp only [r1, hres]
    exact trodAll_cons_mk (shut_bool hb _) trodAll_mk0
  · simp only [r2]
    exact hsame _ fun x hx => by simpa using hlt x (by simp [hx])
  · simp only [r3]
    exact trodVars_fr K hsl hFr hv hV fun x hx => hlt x (by simp [hx])

end
end Go.Proofs.YtolgjekokdimoaaDoor
end

section
namespace Go.Proofs.YtolgjekokdimoaaDoor
variable [LaidG]
open Go.ChangeShapes Go.WideShapes Go.ChangeAt Go.RowKit
set_option linter.unusedVariables false
set_option maxRecDepth 100000
section
variable {H : Type} {enc : TypeId × Value → H} {P : Program} {W W' : World}

theorem iface_of {w : World} {sp : Nat → Bool} {fuel t : Nat} {cs : List Value} {ms : Array (String × TypeId)} {s : String} {d : DataW Unit} {p : List MemPlace} (ht : P.underlying t = some (.interface ms))
    (h : DataW.trod (fun _ => ()) P w 0 sp false fuel t cs = some (.iface s d, p)) : ∃ u v, cs = [.iface u v] := by
  cases fuel with
  | zero => simp [DataW.trod] at h
  | succ fuel =>
    match cs with
    | [] => simp [DataW.trod, ht] at h
    | [a] => cases a <;> first | exact ⟨_, _, rfl⟩ | (simp [DataW.trod, ht] at h)
    | a :: b :: r => simp [DataW.trod, ht] at h
theorem laid_ifc {name s : String} {d : DataW Unit} {g t : Nat} {ms : Array (String × TypeId)} (hg : P.globalNamed name = some g) (hty : (P.globals[g]?).map (·.type) = some t) (ht : P.underlying t = some (.interface ms)) :
    ∀ {laid : List (String × DataW Unit)} {ps : List MemPlace}, DataW.LaidVars P W laid ps → (name, .iface s d) ∈ laid →
      ∃ u v, W.var? P name = some #[.iface u v] ∧ ∀ x ∈ MemPlace.row ⟨g, 0, none⟩ 1, x ∈ ps
  | [], ps, h, hm => by simp at hm
  | (m, d') :: r, ps, h, hm => by
    obtain ⟨g', t', cs, fuel, p, q, hg', ht', hvar, hd, hr, rfl⟩ := h
    rcases List.mem_cons.1 hm with hm | hm
    · obtain ⟨rfl, rfl⟩ := Prod.mk.inj hm
      obtain rfl := Option.some.inj (hg.symm.trans hg')
      obtain rfl := Option.some.inj (hty.symm.trans ht')
      obtain ⟨u, v, e⟩ := iface_of ht hd
      have e' : cs = #[.iface u v] := by apply Array.toList_inj.1; rw [e]
      subst e'
      exact ⟨u, v, hvar, fun x hx => by simp at hx ⊢; simp [hx]⟩
    · obtain ⟨u, v, q1, q2⟩ := laid_ifc hg hty ht hr hm
      exact ⟨u, v, q1, fun x hx => by simp [q2 x hx]⟩
theorem gl_ifc {name : String} {dat : DataW Unit} {g t : Nat} {ms : Array (String × TypeId)} {laid : List (String × DataW Unit)} (h : laidMet P laid W) (hdat : ∃ s d, dat = .iface s d) (hm : (name, dat) ∈ laid) (hg : P.globalNamed name = some g) (hty : (P.globals[g]?).map (·.type) = some t) (ht : P.underlying t = some (.interface ms)) :
    g ∉ ([] : List Nat) ∧ ∃ v t, W.heap[g]? = some (.cells #[v] t (0, 0)) ∧ GlV true v := by
  obtain ⟨s, d, rfl⟩ := hdat
  obtain ⟨ps, hL, _, hz⟩ := h
  obtain ⟨u, v, q1, q2⟩ := laid_ifc hg hty ht hL hm
  obtain ⟨⟨c, t', hc⟩, _⟩ := hz g 0 (q2 _ (by simp [MemPlace.row]))
  have e : c = #[.iface u v] := by
    unfold World.var? at q1
    rw [hg] at q1
    have q1 : (match W.heap[g]? with | some (.cells cs _ _) => some cs | _ => none) = some #[.iface u v] := q1
    rw [hc] at q1
    exact Option.some.inj q1
  subst e
  exact ⟨by simp, _, t', hc, .inr ⟨u, v, rfl⟩⟩
theorem gl_int {g t : Nat} {zero : Array Value} (h : W.ShapedOpen P) (hg : g < P.globals.size) (h0 : ((begin P (fun _ _ => 0) default).world.heap[g]?).bind Obj.row? = some (zero, t)) (hz : zero.size = 1)
    (hb : P.buildable t = true) (hc : P.cellTypes P.depth t = some [t]) (hu : P.underlying t = some (.int .i64)) : g ∉ ([] : List Nat) ∧ ∃ v t, W.heap[g]? = some (.cells #[v] t (0, 0)) ∧ GlV false v := by
  obtain ⟨m, hm⟩ := cell_of_shapedOpen_int h hg h0 hz hb hc hu
  obtain ⟨cs, hh, hs, _⟩ := h.1 g zero t hg h0
  rcases cs with ⟨l⟩
  have hl : l.length = 1 := by simpa [hz] using hs
  obtain ⟨x, rfl⟩ := List.length_eq_one_iff.1 hl
  have hx : x = .int .i64 m := by simpa [World.cell?, hh] using hm
  subst hx
  exact ⟨by simp, _, t, hh, ⟨m, rfl⟩⟩

/-- The wrap, with the world's shape and a fact of one's own. -/
theorem returns_shaped {a : Assume} {C : Checked} {os : Os} {f : FuncId} {fn : Func} {s : ChangeSpec} {conds : List PathCond} {apart fresh handsOn again : Bool} {X : World → Array Value → Prop}
    (hX : ∀ (w w' : World) (args : Array Value), w.heap = w'.heap → X w args → X w' args)
    (own : ownKnob C.prog.godebug = none) (started : os.Started) (noInit : C.prog.inits.idxOf? f = none) (hfn : C.prog.funcs[f]? = some fn)
    (witness : ∃ (w : World) (tape : Tape) (i : Input), w.os = os ∧ (w.forCall tape i).Shaped C.prog ∧ i.vars = [] ∧ Input.okWide C.prog (w.forCall tape i) .any w.heap.size f i ∧
      ((s.pre enc C.prog fn conds apart (w.forCall tape i).memory i.args ∧ X (w.forCall tape i).memory i.args) ∧ sizedMet enc C.prog fn (OpenSpec.ofChange s) apart (w.forCall tape i).memory i.args) ∧ a.holds C.prog (lone (Frame.enter C.prog f i.args .normal) [] (w.forCall tape i)))
    (contract : ∀ (W : World) (base : Nat) (args : Array Value) (ds gs : List (DataW H)) (before : List MemPlace),
      (∀ (j : Nat) t v, fn.params[j]? = some t → args[j]? = some v → Value.okWide C.prog W .any base t v) →
      DataW.Whole enc C.prog fn.params.toList s.vars apart W args.toList ds gs before →
      conds.all (PathCond.test C.prog ⟨fn.params.toList, ds, s.plain.varTypes C.prog, gs⟩) = true →
      (DataW.weightsEach C.prog (fn.params.toList ++ s.plain.varTypes C.prog) (ds ++ gs)).all (· ≤ reachBytes) = true → X W args → W.ShapedOpen C.prog →
      Calls C.prog f args W fun e W' => ∃ v, e = .returned v ∧ s.post enc C.prog fn apart fresh handsOn again W args v W') :
    ReturnsInHanded a C os f .any (fun w args => (s.pre enc C.prog fn conds apart w args ∧ X w args) ∧ sizedMet enc C.prog fn (OpenSpec.ofChange s) apart w args) (s.post enc C.prog fn apart fresh handsOn again) := by
  refine returnsInHanded_of_calls own started noInit witness ?_
  intro w tape i _ hsh _ hok hpre _
  obtain ⟨_, _, _, fn', hfn', _, _, _, _, hval⟩ := hok
  obtain rfl : fn' = fn := Option.some.inj (hfn'.symm.trans hfn)
  obtain ⟨⟨⟨ds, gs, before, hw, hc⟩, hx⟩, hz⟩ := hpre
  refine (contract (w.forCall tape i) w.heap.size i.args ds gs before hval (DataW.Whole.of_heap (w' := w.forCall tape i) (by rfl) hw) hc (hz.weights hw) (hX _ _ _ (by rfl) hx) hsh).mono fun e W' he => ?_
  obtain ⟨v, rfl, hp⟩ := he
  exact ChangeSpec.post_blind hp
end
end Go.Proofs.YtolgjekokdimoaaDoor
end

