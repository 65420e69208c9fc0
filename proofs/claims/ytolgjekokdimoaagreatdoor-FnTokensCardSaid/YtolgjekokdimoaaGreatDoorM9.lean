/-
  Part 9 of the proof of FnTokens: a verification-condition generator over the program and the contracts of its functions, in the order of their use.
  Conditions: none.
-/
import Derived.Test.YtolgjekokdimoaaGreatDoorM8
import Derived.Lib.AtoiErrMem
import Derived.Lib.ItoaLen
import Derived.Lib.AtoiAllCases
import Derived.ProofKit
import Derived.OpenShut
import Derived.SizedLaws
import Derived.ReadAgain
import Derived.Lib.LaidTab
import Derived.Handed
import Derived.Shelf.Vars
set_option linter.unusedVariables false
set_option linter.unusedSimpArgs false
set_option linter.unusedSectionVars false

section
namespace Go.Proofs.YtolgjekokdimoaaGreatDoor
variable [LaidG]
variable [LaidN 5]
variable [LaidN 2]
variable [LaidN 3] [LaidN 4]
open Go.Shelf Go.RowKit
set_option maxRecDepth 100000
set_option linter.unusedSimpArgs false
set_option linter.unusedVariables false

def numV (t : List UInt8) : Int × Bool := match numN t with | some n => (n, true) | none => (0, false)
theorem numV_a {t : List UInt8} (h : numN t = none) : numV t = (0, false) := by rw [numV, h]
theorem numV_b {t : List UInt8} {n : Int} (h : numN t = some n) : numV t = (n, true) := by rw [numV, h]
def c_readInteger : FSpec := ⟨[(.rd, .str)], [.int .i64, .bool], true, fun ps => (nth ps 0).S.length ≤ 1048576, fun ps => [.int .i64 (numV (nth ps 0).S).1, .bool (numV (nth ps 0).S).2], fun _ => []⟩

theorem fr_below {w w' : World} (h : Below w.heap.size w w') : Fr w [] w' := ⟨h.os, h.tape, h.output, h.size, fun k hk _ => h.block k hk⟩
theorem call_atoi (l : List UInt8) (hl : l.length ≤ 1048576) (w : World) (X : List Nat) (hG : GlOk w X) :
    Calls Tryz.prog 126 #[.string ⟨l.toArray⟩] w fun e w' => ∃ v ev, e = .returned (.tuple #[.int .i64 v, ev]) ∧ Fr w [] w' ∧ (∀ n, Lib.atoiAll l = .ok n → v = n ∧ ev = .nilIface) ∧ ((∀ n, Lib.atoiAll l ≠ .ok n) → ∃ t a, ev = .iface t (.pointer (some ⟨a, 0, none⟩))) := by
  cases h : Lib.atoiAll l with
  | ok n =>
    refine (lay_strconv_Atoi_ok ⟨l.toArray⟩ (by show l.toArray.size ≤ _; simp; omega) n h w).mono ?_
    rintro e w' ⟨rfl, hw⟩
    refine ⟨n, .nilIface, rfl, ?_, fun m hm => ?_, fun hm => absurd rfl (hm n)⟩
    · rcases hw with rfl | ⟨t, rfl⟩
      · exact Fr.refl _ _
      · exact fr_below (Lib.bytesWorld_below w 5 t)
    · cases hm; exact ⟨rfl, rfl⟩
  | range =>
    obtain ⟨ev, h1, h2⟩ := cell_is hG (g := 4) (b := true) rfl (by simp)
    refine (lay_strconv_Atoi_range ⟨l.toArray⟩ (by show l.toArray.size ≤ _; simp; omega) h ev w h1 h2).mono ?_
    rintro e w' ⟨N, rfl, _, _, hB⟩
    exact ⟨_, _, rfl, fr_below hB, (fun m hm => by cases hm), fun _ => ⟨_, _, rfl⟩⟩
  | _ =>
    obtain ⟨ev, h1, h2⟩ := cell_is hG (g := 3) (b := true) rfl (by simp)
    refine (Any.strconv_Atoi_syntax lay_laysC172 ⟨l.toArray⟩ (by show l.toArray.size ≤ _; simp; omega) h ev w h1 h2).mono ?_
    rintro e w' ⟨N, rfl, _, _, hB⟩
    exact ⟨_, _, rfl, fr_below hB, (fun m hm => by cases hm), fun _ => ⟨_, _, rfl⟩⟩

set_option maxHeartbeats 1000000 in
theorem walk_bad (l : List UInt8) (hl : l.length ≤ 1048576) (w : World) (X : List Nat) (hG : GlOk w X) (hbad : ∀ n, Lib.atoiAll l ≠ .ok n) :
    Calls Tryz.prog 98 #[.string ⟨l.toArray⟩] w fun e w' => e = .returned (.tuple #[.int .i64 0, .bool false]) ∧ Fr w [] w' := by
  go_enter Tryz.func98, Tryz.ntmps98
  go_wp2_with (go_at_call 126; refine (call_atoi l hl w X hG).mono ?_)
  rintro e w1 ⟨v, ev, rfl, hF, _, h2⟩
  obtain ⟨t, a, rfl⟩ := h2 hbad
  go_wp2
  go_ret2
  exact ⟨rfl, hF⟩

theorem trim_lib (l : List UInt8) : Lib.trimPrefix l [45] = trimN l := by
  cases l with
  | nil => rfl
  | cons c r =>
    by_cases h : c = 45
    · subst h; simp [Lib.trimPrefix, Lib.hasPrefix, trimN]
    · have h' : ¬ (45 : UInt8) = c := fun e => h e.symm
      simp [Lib.trimPrefix, Lib.hasPrefix, trimN, h, h']
theorem call_trim (l : List UInt8) (w : World) :
    Calls Tryz.prog 127 #[.string ⟨l.toArray⟩, .string ⟨#[45]⟩] w fun e w' => ∃ t, t = trimN l ∧ e = .returned (.string ⟨t.toArray⟩) ∧ w' = w :=
  (lay_strings_TrimPrefix ⟨l.toArray⟩ ⟨#[45]⟩ w).mono fun e w' h => ⟨trimN l, rfl, by rw [h.1]; exact congrArg (fun x : List UInt8 => Ending.returned (.string ⟨x.toArray⟩)) (trim_lib l), h.2⟩
theorem call_itoa (n : Int) (h0 : -9223372036854775808 ≤ n) (h1 : n ≤ 9223372036854775807) (w : World) (X : List Nat) (hG : GlOk w X) :
    Calls Tryz.prog 106 #[.int .i64 n] w fun e w' => ∃ t, t = Lib.itoa n ∧ e = .returned (.string ⟨t.toArray⟩) ∧ Fr w [] w' := by
  refine (lay_strconv_Itoa n h0 h1 w (tab_is hG)).mono ?_
  rintro e w' ⟨rfl, k, os, rfl⟩
  exact ⟨_, rfl, rfl, rfl, rfl, rfl, by show w.heap.size ≤ (w.heap ++ os).size; simp, fun j hj _ => by show (w.heap ++ os)[j]? = w.heap[j]?; rw [Array.getElem?_append_left hj]⟩
set_option maxHeartbeats 1000000 in
theorem walk_good (l : List UInt8) (hl : l.length ≤ 1048576) (w : World) (X : List Nat) (hG : GlOk w X) (n : Int) (hok : Lib.atoiAll l = .ok n) (r : Int) (g : Bool) (hr : (r, g) = if 18 < (trimN l).length ∨ Lib.itoa n ≠ l then (0, false) else (n, true)) :
    Calls Tryz.prog 98 #[.string ⟨l.toArray⟩] w fun e w' => e = .returned (.tuple #[.int .i64 r, .bool g]) ∧ Fr w [] w' := by
  go_enter Tryz.func98, Tryz.ntmps98
  go_wp2_with (go_at_call 126; refine (call_atoi l hl w X hG).mono ?_)
  rintro e w1 ⟨v, ev, rfl, hF, h1, _⟩
  obtain ⟨rfl, rfl⟩ := h1 n hok
  go_wp2_with (go_at_call 127; refine (call_trim l w1).mono ?_)
  rintro e w2 ⟨t, ht, rfl, rfl⟩
  have hG2 : GlOk w2 [] := (hG.now (ms := []) (Fr.refl w X) (by simp)).now hF (by simp)
  go_wp2_with (go_at_call 106; refine (call_itoa v (Lib.atoiAll_bounds hok).1 (Lib.atoiAll_bounds hok).2 w2 [] hG2).mono ?_)
  · rintro e w3 ⟨s, hs, rfl, hF3⟩
    rename_i h18
    have hF4 : Fr w [] w3 := hF.trans hF3 (by simp) (by simp)
    go_wp2
    · go_ret2
      rename_i hb
      have hc : 18 < (trimN l).length ∨ Lib.itoa v ≠ l := by
        rcases hb with q | q
        · left; omega
        · right; intro e; rw [e] at q; simp at q
      rw [if_pos hc] at hr
      cases hr
      exact ⟨rfl, hF4⟩
    · go_ret2
      rename_i hb
      have hc : ¬ (18 < (trimN l).length ∨ Lib.itoa v ≠ l) := by
        rintro (q | q)
        · omega
        · exact q (by simpa using hb.2)
      rw [if_neg hc] at hr
      cases hr
      exact ⟨rfl, hF4⟩
  · go_ret2
    rename_i h18
    rw [if_pos (.inl (by omega))] at hr
    cases hr
    exact ⟨rfl, hF⟩
theorem meets_readInteger : Meets Tryz.prog 98 c_readInteger := by
  intro w ps vs fs fl ms hA hnd hdj hpre hgl
  cases hA with
  | rd h1 hA =>
  cases hA
  obtain ⟨h1, rfl⟩ := h1
  cases h1 with | str hl h1 =>
  cases h1
  rename_i l
  simp only [c_readInteger, nth, List.getD_cons_zero, PV.S] at hpre
  have hfin : ∀ (r : Int) (g : Bool), (r, g) = numV l → (Calls Tryz.prog 98 #[.string ⟨l.toArray⟩] w fun e w' => e = .returned (.tuple #[.int .i64 r, .bool g]) ∧ Fr w [] w') → inR .i64 r →
      Calls Tryz.prog 98 #[.string ⟨l.toArray⟩] w fun e w' => ∃ rvs, e = .returned (packR rvs) ∧ Done w c_readInteger [.str l] [.string ⟨l.toArray⟩] [] [] rvs w' := by
    intro r g hv hc hr
    refine hc.mono ?_
    rintro e w' ⟨rfl, hF⟩
    refine ⟨[.int .i64 r, .bool g], rfl, hF, .inl ⟨rfl, [], [], ?_, .rd .nil, by simp, fun x hx => by simp at hx⟩⟩
    have e1 : numV l = (r, g) := hv.symm
    show RetVs w' [.int .i64, .bool] [.int .i64 (numV l).1, .bool (numV l).2] _ _
    rw [e1]
    exact .cons (t := .int .i64) ⟨[[]], .int hr .nil, rfl⟩ (.cons (t := .bool) ⟨[[]], .bool .nil, rfl⟩ .nil)
  have hint := int_num l
  unfold intN at hint
  cases hok : Lib.atoiAll l with
  | ok n =>
    rw [hok] at hint
    dsimp only at hint
    have hb := Lib.atoiAll_bounds hok
    refine hfin (if 18 < (trimN l).length ∨ Lib.itoa n ≠ l then 0 else n) (decide (¬ (18 < (trimN l).length ∨ Lib.itoa n ≠ l))) ?_ (walk_good l hpre w _ hgl n hok _ _ ?_) ?_
    · unfold numV; rw [← hint]; split <;> rename_i q <;> simp [q]
    · split <;> rename_i q <;> simp [q]
    · split
      · decide
      · exact hb
  | range =>
    rw [hok] at hint
    refine hfin 0 false (by unfold numV; rw [← hint]) (walk_bad l hpre w _ hgl (by rw [hok]; intro n q; cases q)) (by decide)
  | _ =>
    rw [hok] at hint
    refine hfin 0 false (by unfold numV; rw [← hint]) (walk_bad l hpre w _ hgl (by rw [hok]; intro n q; cases q)) (by decide)
theorem k_readInteger : FnOk Tryz.prog 98 c_readInteger := ⟨meets_readInteger, _, Tryz.func98, rfl, by decide⟩

theorem b45 (x : UInt8) (k : Nat) (hk : k < 256) : ((x.toNat : Int) = k) ↔ x = UInt8.ofNat k := by
  constructor
  · intro h
    apply UInt8.toNat_inj.1
    rw [UInt8.toNat_ofNat', Nat.mod_eq_of_lt hk]; omega
  · intro h; rw [h, UInt8.toNat_ofNat', Nat.mod_eq_of_lt hk]
theorem num_none {t : List UInt8} (h : numN t = none) : (0 = (numV t).1 ∧ (numV t).2 = false) := by rw [numV_a h]; exact ⟨rfl, rfl⟩
theorem dgV_bad {u : List UInt8} {m i : Nat} (hi : i < u.length) (h : ¬ (48 ≤ (u.getD i 0).toNat ∧ (u.getD i 0).toNat ≤ 57)) : dgV m (u.drop i) = none := by
  rw [List.drop_eq_getElem_cons hi, dgV, if_neg]
  rw [List.getD_eq_getElem?_getD, List.getElem?_eq_getElem hi] at h
  exact h
theorem dgV_ok {u : List UInt8} {m i : Nat} (hi : i < u.length) (h : 48 ≤ (u.getD i 0).toNat ∧ (u.getD i 0).toNat ≤ 57) : dgV m (u.drop i) = dgV (m * 10 + ((u.getD i 0).toNat - 48)) (u.drop (i + 1)) := by
  have e : u.getD i 0 = u[i] := by rw [List.getD_eq_getElem?_getD, List.getElem?_eq_getElem hi]; rfl
  rw [e] at h ⊢
  rw [List.drop_eq_getElem_cons hi, dgV, if_pos h]
def c_l00Number : FSpec := c_readInteger
theorem k_l00Number : FnOk Tryz.prog 95 c_l00Number := by
  refine fn_mk [0, 2, 3, 4, 5, 6] [.tmp 2, .tmp 3] (env_nil (tyTab_ok [])) mixed Tryz.func95 rfl (by decide) rfl (by decide) rfl ?_
  intro ps hT hpre W hW
  simp only [c_l00Number, TyA, Ty, Tys] at hT hpre
  simp only [c_readInteger, TyA, Ty, Tys] at hT hpre
  obtain ⟨_, _, rfl, ⟨t, rfl, ht⟩, rfl⟩ := hT
  simp only [nth_zero, pv_S] at hpre
  refine hW.vc [] _ _ ?_
  simp [-List.getD_eq_getElem?_getD, c_l00Number, c_readInteger, c_readInteger]
  refine fun _ => ⟨fun h0 h45 => ?_, fun hns => ?_⟩
  · have e : List.take (t.length - 1) t.tail = t.drop 1 := by rw [List.take_of_length_le (by simp), List.drop_one]
    have hl : t.length - 1 = (t.drop 1).length := by simp
    have hN : numN t = (magN true (t.drop 1)).map fun m : Nat => -(m : Int) := by
      rw [numN, if_pos ⟨h0, (b45 _ 45 (by decide)).1 h45⟩]
    rw [e, hl]
    generalize t.drop 1 = u at *
    refine ⟨by omega, fun _ _ => ⟨fun a b => ⟨⟨a, b⟩, by omega⟩, fun _ => ⟨fun a b c => ⟨⟨⟨a, b⟩, c⟩, fun d => ⟨⟨⟨a, b⟩, c⟩, d⟩⟩, fun a b => ⟨⟨a, b⟩, fun c => ⟨⟨a, b⟩, c⟩⟩, fun h => ?_, fun a b c => ?_⟩⟩⟩
    · refine num_none ?_
      have hm : magN true u = none := by
        rw [magN, if_pos]
        rcases h with (h | h) | h
        · exact .inl h
        · exact .inr (.inl (by omega))
        · exact .inr (.inr ⟨(b45 _ 48 (by decide)).1 h, .inr rfl⟩)
      rw [hN, hm]; rfl
    · have hm : magN true u = dgV 0 u := by
        rw [magN, if_neg]
        rintro (q | q | q)
        · exact a q
        · omega
        · exact c ((b45 _ 48 (by decide)).2 q.1)
      rw [hm] at hN
      refine hW.loopS _ _ _ [.sl 5 .dp (.int .i64), .sl 6 .dp (.int .i64)] (fun ys => ∃ i m : Nat, ys = [.int .i64 m, .int .i64 i] ∧ i ≤ u.length ∧ dgV 0 u = dgV m (u.drop i) ∧ m < 10 ^ i) (fun ys => u.length - (nth ys 1).I.toNat) ?_ ?_
      · simp [-List.getD_eq_getElem?_getD, c_l00Number, c_readInteger]
        exact ⟨0, 0, ⟨rfl, rfl⟩, by omega, rfl, by decide⟩
      · rintro ys ⟨i, m, rfl, g1, g2, g3⟩
        refine hW.vc [] _ _ ?_
        simp [-List.getD_eq_getElem?_getD, c_l00Number, c_readInteger, c_readInteger]
        have hpi : 10 ^ i ≤ 10 ^ 18 := Nat.pow_le_pow_right (by decide) (by omega)
        have hp18 : (10 : Nat) ^ 18 = 1000000000000000000 := by decide
        rw [wrap64 (n := (i : Int) + 1) (by omega)]
        refine fun _ => ⟨fun h3 => ⟨h3, fun h => ⟨h, h3⟩, fun h => ?_, fun h4 h5 => ?_⟩, fun h3 => ?_⟩
        · refine num_none ?_
          rw [hN, g2, dgV_bad h3 (by omega)]; rfl
        · have hp17 : 10 ^ i ≤ 10 ^ 17 := Nat.pow_le_pow_right (by decide) (by omega)
          have hp17' : (10 : Nat) ^ 17 = 100000000000000000 := by decide
          rw [dgV_ok h3 (by omega)] at g2
          generalize (u.getD i 0).toNat = d at *
          rw [wrap64 (n := (m : Int) * 10) (by omega), wrap64 (n := (d : Int)) (by omega), wrap64 (n := (m : Int) * 10 + d) (by omega), wrap64 (n := (m : Int) * 10 + d - 48) (by omega)]
          refine ⟨h3, ⟨i + 1, m * 10 + (d - 48), ⟨by omega, by omega⟩, by omega, g2, ?_⟩, by omega⟩
          rw [Nat.pow_succ]; omega
        · rw [List.drop_eq_nil_of_le h3] at g2
          rw [g2] at hN
          have hV := numV_b (t := t) (n := -(m : Int)) (by rw [hN]; rfl)
          rw [hV]
          exact ⟨by rw [wrap64 (by omega)], rfl⟩
  · have hN : numN t = (magN false t).map fun m : Nat => (m : Int) := by
      rw [numN, if_neg]
      rintro ⟨q1, q2⟩
      exact hns q1 ((b45 _ 45 (by decide)).2 q2)
    have h00 : ¬ t = [] ↔ ¬ t.length = 0 := by rw [List.length_eq_zero_iff]
    rw [← List.length_eq_zero_iff]
    obtain ⟨u, hu⟩ : ∃ u, u = t := ⟨t, rfl⟩
    refine fun _ _ => ⟨fun a b => ⟨⟨a, b⟩, by omega⟩, fun _ => ⟨fun a b c => ⟨⟨⟨a, b⟩, c⟩, fun d => ⟨⟨⟨a, b⟩, c⟩, d⟩⟩, fun a b => ⟨⟨a, b⟩, fun c => ⟨⟨a, b⟩, c⟩⟩, fun h => ?_, fun a b c => ?_⟩⟩
    · refine num_none ?_
      have hm : magN false t = none := by
        rw [magN, if_pos]
        rcases h with (h | h) | h
        · exact .inl h
        · exact .inr (.inl (by omega))
        · exact .inr (.inr ⟨(b45 _ 48 (by decide)).1 h.1, .inl (by omega)⟩)
      rw [hN, hm]; rfl
    · have hm : magN false t = dgV 0 u := by
        rw [magN, if_neg, hu]
        rintro (q | q | q)
        · exact a q
        · omega
        · have := c ((b45 _ 48 (by decide)).2 q.1)
          rcases q.2 with q | q
          · omega
          · cases q
      rw [hm] at hN
      rw [← hu] at a b
      have ht : SV.str t = SV.str u := by rw [hu]
      rw [ht]
      refine hW.loopS _ _ _ [.sl 5 .dp (.int .i64), .sl 6 .dp (.int .i64)] (fun ys => ∃ i m : Nat, ys = [.int .i64 m, .int .i64 i] ∧ i ≤ u.length ∧ dgV 0 u = dgV m (u.drop i) ∧ m < 10 ^ i) (fun ys => u.length - (nth ys 1).I.toNat) ?_ ?_
      · simp [-List.getD_eq_getElem?_getD, c_l00Number, c_readInteger]
        exact ⟨0, 0, ⟨rfl, rfl⟩, by omega, rfl, by decide⟩
      · rintro ys ⟨i, m, rfl, g1, g2, g3⟩
        refine hW.vc [] _ _ ?_
        simp [-List.getD_eq_getElem?_getD, c_l00Number, c_readInteger, c_readInteger]
        have hpi : 10 ^ i ≤ 10 ^ 18 := Nat.pow_le_pow_right (by decide) (by omega)
        have hp18 : (10 : Nat) ^ 18 = 1000000000000000000 := by decide
        rw [wrap64 (n := (i : Int) + 1) (by omega)]
        refine fun _ => ⟨fun h3 => ⟨h3, fun h => ⟨h, h3⟩, fun h => ?_, fun h4 h5 => ?_⟩, fun h3 => ?_⟩
        · refine num_none ?_
          rw [hN, g2, dgV_bad h3 (by omega)]; rfl
        · have hp17 : 10 ^ i ≤ 10 ^ 17 := Nat.pow_le_pow_right (by decide) (by omega)
          have hp17' : (10 : Nat) ^ 17 = 100000000000000000 := by decide
          rw [dgV_ok h3 (by omega)] at g2
          generalize (u.getD i 0).toNat = d at *
          rw [wrap64 (n := (m : Int) * 10) (by omega), wrap64 (n := (d : Int)) (by omega), wrap64 (n := (m : Int) * 10 + d) (by omega), wrap64 (n := (m : Int) * 10 + d - 48) (by omega)]
          refine ⟨h3, ⟨i + 1, m * 10 + (d - 48), ⟨by omega, by omega⟩, by omega, g2, ?_⟩, by omega⟩
          rw [Nat.pow_succ]; omega
        · rw [List.drop_eq_nil_of_le h3] at g2
          rw [g2] at hN
          have hV := numV_b (t := t) (n := (m : Int)) (by rw [hN]; rfl)
          rw [hV]
          exact ⟨by first | rfl | (rw [wrap64 (by omega)]), rfl⟩

end Go.Proofs.YtolgjekokdimoaaGreatDoor
end

section
namespace Go.Proofs.YtolgjekokdimoaaGreatDoor
variable [LaidG]
variable [LaidN 0] [LaidN 1]
variable [LaidN 5]
variable [LaidN 2]
variable [LaidN 3] [LaidN 4]
set_option maxRecDepth 100000
set_option linter.unusedSimpArgs false

def c_l00Cut : FSpec := ⟨[(.rd, .str), (.rd, .int .u8)], [.list .str], true, fun ps => (nth ps 0).S.length ≤ 1048576, fun ps => [.list (cutP (UInt8.ofNat (nth ps 1).I.toNat) (nth ps 0).S)], fun _ => []⟩
theorem k_l00Cut : FnOk Tryz.prog 94 c_l00Cut := by
  refine fn_mk [0, 1, 4, 5, 6, 7] [.tmp 4] (env_nil (tyTab_ok [])) mixed Tryz.func94 rfl (by decide) rfl (by decide) rfl ?_
  intro ps hT hpre W hW
  simp only [c_l00Cut, TyA, Ty, Tys] at hT hpre
  obtain ⟨_, _, rfl, ⟨t, rfl, ht⟩, _, _, rfl, ⟨x, rfl, hx⟩, rfl⟩ := hT
  have hhx := hx
  clear hx
  simp only [nth_zero, nth_succ, pv_S] at hpre
  refine hW.vc [] _ _ ?_
  simp [-List.getD_eq_getElem?_getD, c_l00Cut]
  refine hW.loopS _ _ _ [.sl 5 .dp (.list .str), .sl 6 .dp (.int .i64), .sl 7 .dp (.int .i64)] (fun ys => ∃ (i f : Nat) (es : List (List UInt8)), ys = [.list (es.map PV.str), .int .i64 f, .int .i64 i] ∧ f ≤ i ∧ i ≤ t.length ∧ es.length ≤ i ∧ cutA (UInt8.ofNat x.toNat) [] t = es ++ cutA (UInt8.ofNat x.toNat) ((t.drop f).take (i - f)) (t.drop i)) (fun ys => t.length - (nth ys 2).I.toNat) ?_ ?_
  · simp [-List.getD_eq_getElem?_getD, c_l00Cut]
    exact ⟨0, 0, [], ⟨rfl, rfl, rfl⟩, by omega, by omega, by simp, by simp⟩
  · rintro ys ⟨i, f, es, rfl, g1, g2, g3, g4⟩
    refine hW.vc [] _ _ ?_
    simp [-List.getD_eq_getElem?_getD, c_l00Cut]
    refine fun _ => ⟨fun h3 => ⟨h3, fun hx => ⟨⟨g1, g2⟩, by omega, fun _ => ?_⟩, fun hx => ?_⟩, fun h3 => ⟨by omega, by omega, fun _ => ?_⟩⟩
    · have hb : t.getD i 0 = UInt8.ofNat x.toNat := by rw [← hx]; simp
      have hd : t.drop i = t.getD i 0 :: t.drop (i + 1) := by
        rw [List.drop_eq_getElem_cons h3]; simp [h3]
      rw [hd, cutA, if_pos hb] at g4
      rw [wrap64 (n := (i : Int) + 1) (by omega)]
      refine ⟨⟨i + 1, i + 1, es ++ [(t.drop f).take (i - f)], ⟨by simp, by omega, by omega⟩, by omega, by omega, by simp; omega, ?_⟩, by omega⟩
      rw [g4]; simp
    · have hb : ¬ t.getD i 0 = UInt8.ofNat x.toNat := by
        intro e
        apply hx
        rw [e, UInt8.toNat_ofNat', Nat.mod_eq_of_lt (by have := hhx.2; have h255 : IntKind.u8.max = 255 := by decide
                                                        have := hhx.1; have h0 : IntKind.u8.min = 0 := by decide
                                                        omega)]
        have := hhx.1; have h0 : IntKind.u8.min = 0 := by decide
        omega
      have hd : t.drop i = t.getD i 0 :: t.drop (i + 1) := by
        rw [List.drop_eq_getElem_cons h3]; simp [h3]
      rw [hd, cutA, if_neg hb] at g4
      rw [wrap64 (n := (i : Int) + 1) (by omega)]
      refine ⟨⟨i + 1, f, es, ⟨rfl, rfl, by omega⟩, by omega, by omega, by omega, ?_⟩, by omega⟩
      rw [g4, show i + 1 - f = (i - f) + 1 by omega, List.take_succ_eq_append_getElem (by rw [List.length_drop]; omega)]
      congr 3
      rw [List.getElem_drop, List.getD_eq_getElem?_getD, List.getElem?_eq_getElem (by omega)]
      simp [show f + (i - f) = i by omega]
    · rw [List.drop_eq_nil_of_le h3, cutA] at g4
      rw [cutP, g4, List.map_append, show i = t.length by omega]; rfl
def wordT (t : List UInt8) (i : Nat) : List UInt8 := (cutA 32 [] t).getD i []
def cliT (t : List UInt8) : Int := (numV (wordT t 1)).1
def cntT (t : List UInt8) : Int := (numV (wordT t 3)).1
/-- A text has a token's form. -/
def okT (t : List UInt8) : Bool := (cutA 32 [] t).length == 5 && (numV (wordT t 1)).2 && (numV (wordT t 3)).2 && toldB (cliT t) (wordT t 2) (cntT t) && wordT t 0 == [116, 111, 107, 101, 110]
def sameT (key t : List UInt8) : Bool := tokenL key (cliT t) (wordT t 2) (cntT t) == t
def readB (key t : List UInt8) : Bool := okT t && sameT key t
def rtC (key t : List UInt8) : Int := cond (readB key t) (cliT t) 0
def rtW (key t : List UInt8) : List UInt8 := cond (readB key t) (wordT t 2) []
def rtN (key t : List UInt8) : Int := cond (readB key t) (cntT t) 0
def rtK (key t : List UInt8) : Int := cond (okT t) (cond (sameT key t) 0 16) 3
theorem rt_a {key t : List UInt8} (h : okT t = false) : rtC key t = 0 ∧ rtW key t = [] ∧ rtN key t = 0 ∧ rtK key t = 3 := by simp [rtC, rtW, rtN, rtK, readB, h]
theorem rt_b {key t : List UInt8} (h : okT t = true) (h2 : sameT key t = false) : rtC key t = 0 ∧ rtW key t = [] ∧ rtN key t = 0 ∧ rtK key t = 16 := by simp [rtC, rtW, rtN, rtK, readB, h, h2]
theorem rt_c {key t : List UInt8} (h : okT t = true) (h2 : sameT key t = true) : rtC key t = cliT t ∧ rtW key t = wordT t 2 ∧ rtN key t = cntT t ∧ rtK key t = 0 := by simp [rtC, rtW, rtN, rtK, readB, h, h2]
theorem cutP_len (x : UInt8) (t : List UInt8) : (cutP x t).length = (cutA x [] t).length := by simp [cutP]
theorem cutP_at {t : List UInt8} {i : Nat} (h : i < (cutA 32 [] t).length) : (nth (cutP 32 t) i).S = wordT t i := by
  unfold cutP wordT nth
  simp only [List.getD_eq_getElem?_getD, List.getElem?_map]
  rw [List.getElem?_eq_getElem h]; rfl
theorem wordT_len (t : List UInt8) (i : Nat) : (wordT t i).length ≤ t.length := by
  unfold wordT
  by_cases h : i < (cutA 32 [] t).length
  · rw [List.getD_eq_getElem?_getD, List.getElem?_eq_getElem h]
    have := cutA_part t [] _ (List.getElem_mem h)
    simpa using this
  · rw [List.getD_eq_getElem?_getD, List.getElem?_eq_none (by omega)]; simp
theorem num_itoa {t : List UInt8} (h : (numV t).2 = true) : Lib.itoa (numV t).1 = t := by
  cases hn : numN t with
  | none => rw [numV_a hn] at h; cases h
  | some n =>
    rw [numV_b hn]
    have hi := int_num t
    rw [hn] at hi
    unfold intN at hi
    cases ha : Lib.atoiAll t with
    | ok m =>
      rw [ha] at hi
      dsimp only at hi
      split at hi
      · cases hi
      · rename_i q
        cases hi
        by_cases e : Lib.itoa n = t
        · exact e
        · exact absurd (.inr e) q
    | range => rw [ha] at hi; cases hi
    | _ => rw [ha] at hi; cases hi
theorem five {t : List UInt8} (h : (cutA 32 [] t).length = 5) : cutA 32 [] t = [wordT t 0, wordT t 1, wordT t 2, wordT t 3, wordT t 4] := by
  unfold wordT
  generalize cutA 32 [] t = l at *
  match l, h with
  | [a, b, c, d, e], _ => rfl
theorem okT_false {t : List UInt8} (h : ¬ (cutA 32 [] t).length = 5 ∨ (((numV (wordT t 1)).2 = false ∨ (numV (wordT t 3)).2 = false) ∨ toldB (numV (wordT t 1)).1 (wordT t 2) (numV (wordT t 3)).1 = false) ∨ ¬ wordT t 0 = [116, 111, 107, 101, 110]) : okT t = false := by
  unfold okT cliT cntT
  rcases h with h | ((h | h) | h) | h <;> simp [h]
theorem okT_true {t : List UInt8} (h : (cutA 32 [] t).length = 5) (a : (numV (wordT t 1)).2 = true) (b : (numV (wordT t 3)).2 = true) (c : toldB (numV (wordT t 1)).1 (wordT t 2) (numV (wordT t 3)).1 = true) (d : wordT t 0 = [116, 111, 107, 101, 110]) : okT t = true := by
  unfold okT cliT cntT
  simp [h, a, b, c, d]
theorem same_iff {key t : List UInt8} (h : (cutA 32 [] t).length = 5) (a : (numV (wordT t 1)).2 = true) (b : (numV (wordT t 3)).2 = true) (d : wordT t 0 = [116, 111, 107, 101, 110]) :
    wordT t 4 = markL key (headL (numV (wordT t 1)).1 (wordT t 2) (numV (wordT t 3)).1) ↔ tokenL key (numV (wordT t 1)).1 (wordT t 2) (numV (wordT t 3)).1 = t := by
  have hj := join_cut (x := 32) t []
  rw [five h, List.nil_append] at hj
  simp only [joinA] at hj
  have e1 := num_itoa a
  have e3 := num_itoa b
  have ht : t = headL (numV (wordT t 1)).1 (wordT t 2) (numV (wordT t 3)).1 ++ ([32] ++ wordT t 4) := by
    conv => lhs; rw [← hj]
    unfold headL decS
    rw [e1, e3, d]
    simp
  unfold tokenL
  generalize headL (numV (wordT t 1)).1 (wordT t 2) (numV (wordT t 3)).1 = hd at *
  constructor
  · intro e; rw [← e]; exact ht.symm
  · intro e
    have h1 : hd ++ ([32] ++ markL key hd) = hd ++ ([32] ++ wordT t 4) := by rw [e]; exact ht
    simpa using h1.symm
def c_readToken : FSpec := ⟨[(.rd, .str), (.rd, .str)], [.int .i64, .str, .int .i64, .int .i64], true, fun ps => (nth ps 0).S.length ≤ 1000000 ∧ (nth ps 1).S.length ≤ 1000000, fun ps => [.int .i64 (rtC (nth ps 0).S (nth ps 1).S), .str (rtW (nth ps 0).S (nth ps 1).S), .int .i64 (rtN (nth ps 0).S (nth ps 1).S), .int .i64 (rtK (nth ps 0).S (nth ps 1).S)], fun _ => []⟩
theorem k_readToken : FnOk Tryz.prog 54 c_readToken := by
  refine fn_mk [0, 1, 4, 5, 6, 7, 8, 9, 10, 11, 12] [.tmp 4, .tmp 5, .tmp 6, .tmp 7] (env_cons (cs := []) k_tokenOf (env_cons (cs := []) k_isTold (env_cons (cs := []) k_readInteger (env_cons (cs := []) k_Split (env_nil (tyTab_ok [])))))) mixed Tryz.func54 rfl (by decide) rfl (by decide) rfl ?_
  intro ps hT hpre W hW
  simp only [c_readToken, TyA, Ty, Tys] at hT hpre
  obtain ⟨_, _, rfl, ⟨key, rfl, hkey⟩, _, _, rfl, ⟨t, rfl, ht⟩, rfl⟩ := hT
  simp only [nth_zero, nth_succ, pv_S] at hpre
  refine hW.vc [(10, [], .take 0 <| .take 1 <| .take 2 <| .take 3 <| .take 4 <| .alt 5 (.alt 6 (.alt 7 (.alt 8 (.done) .stop) .stop) .stop) .stop)] _ _ ?_
  simp [-List.getD_eq_getElem?_getD, c_readToken, c_Split, c_readInteger, c_isTold, c_tokenOf]
  rw [cutP_len]
  have l1 := wordT_len t 1
  have l3 := wordT_len t 3
  by_cases h5 : (cutA 32 [] t).length = 5
  · rw [cutP_at (i := 0) (by omega), cutP_at (i := 1) (by omega), cutP_at (i := 2) (by omega), cutP_at (i := 3) (by omega), h5]
    refine ⟨by omega, fun _ => ⟨fun h => absurd rfl h, fun _ => ⟨by decide, by decide, fun _ => ⟨by omega, by decide, by decide, fun _ => ⟨by omega, fun a b => ⟨⟨a, b⟩, by decide⟩, fun a b => ⟨⟨a, b⟩, by decide⟩, fun _ => ⟨fun a b c => ⟨⟨⟨a, b⟩, c⟩, by decide⟩, fun _ => ⟨fun h => ?_, fun a b c d => ⟨by decide, by decide, fun _ => ⟨⟨hpre.1, toldB_P c⟩, fun e => ?_, fun e => ⟨by decide +kernel, by decide, by decide, fun _ => ?_⟩⟩⟩⟩⟩⟩⟩⟩⟩⟩
    · obtain ⟨e1, e2, e3, e4⟩ := rt_a (key := key) (okT_false (.inr h))
      exact ⟨e1.symm, e2, e3.symm, e4.symm⟩
    · obtain ⟨e1, e2, e3, e4⟩ := rt_b (key := key) (okT_true h5 a b c d) (by simp only [sameT, cliT, cntT]; simpa using e)
      exact ⟨e1.symm, e2, e3.symm, e4.symm⟩
    · obtain ⟨e1, e2, e3, e4⟩ := rt_c (key := key) (okT_true h5 a b c d) (by simp only [sameT, cliT, cntT]; simpa using e)
      exact ⟨e1.symm, e2.symm, e3.symm, e4.symm⟩
  · refine ⟨by omega, fun _ => ⟨fun _ => ?_, fun h => absurd (by omega) h5⟩⟩
    obtain ⟨e1, e2, e3, e4⟩ := rt_a (key := key) (okT_false (.inl h5))
    exact ⟨e1.symm, e2, e3.symm, e4.symm⟩
def c_l12Read : FSpec := c_readToken
theorem k_l12Read : FnOk Tryz.prog 53 c_l12Read := by
  refine fn_mk [0, 1, 4, 5, 6, 7, 8, 9, 10, 11, 12] [.tmp 4, .tmp 5, .tmp 6, .tmp 7] (env_cons (cs := []) k_l12Mark (env_cons (cs := []) k_l12Ask (env_cons (cs := []) k_l00Number (env_cons (cs := []) k_l00Cut (env_nil (tyTab_ok [])))))) mixed Tryz.func53 rfl (by decide) rfl (by decide) rfl ?_
  intro ps hT hpre W hW
  simp only [c_l12Read, TyA, Ty, Tys] at hT hpre
  simp only [c_readToken, TyA, Ty, Tys] at hT hpre
  obtain ⟨_, _, rfl, ⟨key, rfl, hkey⟩, _, _, rfl, ⟨t, rfl, ht⟩, rfl⟩ := hT
  simp only [nth_zero, nth_succ, pv_S] at hpre
  refine hW.vc [(8, [], .take 0 <| .take 1 <| .take 2 <| .take 3 <| .take 4 <| .take 5 <| .take 6 <| .take 7 <| .take 8 <| .alt 9 (.take 10 <| .done) .stop), (10, [], .take 0 <| .take 1 <| .take 2 <| .take 3 <| .take 4 <| .alt 5 (.alt 6 (.alt 7 (.alt 8 (.done) .stop) .stop) .stop) .stop)] _ _ ?_
  simp [-List.getD_eq_getElem?_getD, c_l12Read, c_l00Cut, c_l00Number, c_l12Ask, c_l12Mark, c_readToken, c_readInteger, c_isTold, c_readInteger, c_isTold]
  rw [cutP_len]
  have l1 := wordT_len t 1
  have l3 := wordT_len t 3
  by_cases h5 : (cutA 32 [] t).length = 5
  · rw [cutP_at (i := 0) (by omega), cutP_at (i := 1) (by omega), cutP_at (i := 2) (by omega), cutP_at (i := 3) (by omega), cutP_at (i := 4) (by omega), h5]
    refine ⟨by omega, fun _ => ⟨fun _ => ⟨rfl, by decide⟩, fun _ => ⟨fun h => ?_, fun _ d => ⟨by decide, by decide, fun _ => ⟨by omega, by decide, by decide, fun _ => ⟨by omega, fun a b => ⟨⟨a, b⟩, by decide⟩, fun a b => ⟨⟨a, b⟩, by decide⟩, fun _ => ⟨fun h => ?_, fun a b c => ⟨by decide +kernel, by decide, by decide, fun _ => ⟨by decide, by decide, fun _ => ⟨⟨hpre.1, toldB_P c⟩, fun e => ?_, fun e => ⟨by decide +kernel, by decide, by decide, fun _ => ?_⟩⟩⟩⟩⟩⟩⟩⟩⟩⟩⟩
    · obtain ⟨e1, e2, e3, e4⟩ := rt_a (key := key) (okT_false (by rcases h with h | h; exact absurd rfl h; exact .inr (.inr h)))
      exact ⟨e1.symm, e2, e3.symm, e4.symm⟩
    · obtain ⟨e1, e2, e3, e4⟩ := rt_a (key := key) (okT_false (.inr (.inl h)))
      exact ⟨e1.symm, e2, e3.symm, e4.symm⟩
    · obtain ⟨e1, e2, e3, e4⟩ := rt_b (key := key) (okT_true h5 a b c d) (by
        have := mt (same_iff h5 a b d).2 e
        simp only [sameT, cliT, cntT]; simpa using this)
      exact ⟨e1.symm, e2, e3.symm, e4.symm⟩
    · obtain ⟨e1, e2, e3, e4⟩ := rt_c (key := key) (okT_true h5 a b c d) (by
        have := (same_iff h5 a b d).1 e
        simp only [sameT, cliT, cntT]; simpa using this)
      exact ⟨e1.symm, e2.symm, e3.symm, e4.symm⟩
  · have hn : ¬ (((cutA 32 [] t).length : Nat) : Int) = 5 := by omega
    refine ⟨by omega, fun _ => ⟨fun h => absurd h hn, fun _ => ⟨fun _ => ?_, fun h => absurd h hn⟩⟩⟩
    obtain ⟨e1, e2, e3, e4⟩ := rt_a (key := key) (okT_false (.inl h5))
    exact ⟨e1.symm, e2, e3.symm, e4.symm⟩

/-- What reading a token answers. -/
def RTC (key t : List UInt8) : Int := cond (longB key t) 0 (rtC key t)
def RTW (key t : List UInt8) : List UInt8 := cond (longB key t) [] (rtW key t)
def RTN (key t : List UInt8) : Int := cond (longB key t) 0 (rtN key t)
def RTK (key t : List UInt8) : Int := cond (longB key t) 2 (rtK key t)
def c_ReadToken : FSpec := ⟨[(.rd, .str), (.rd, .str)], [.int .i64, .str, .int .i64, .int .i64], true, fun _ => True, fun ps => [.int .i64 (RTC (nth ps 0).S (nth ps 1).S), .str (RTW (nth ps 0).S (nth ps 1).S), .int .i64 (RTN (nth ps 0).S (nth ps 1).S), .int .i64 (RTK (nth ps 0).S (nth ps 1).S)], fun _ => []⟩
theorem k_ReadToken : FnOk Tryz.prog 19 c_ReadToken := by
  refine fn_mk [0, 1, 4, 5, 6, 7] [.tmp 4, .tmp 5, .tmp 6, .tmp 7] (env_cons (cs := []) k_readToken (env_cons (cs := []) k_isLong (env_nil (tyTab_ok [])))) mixed Tryz.func19 rfl (by decide) rfl (by decide) rfl ?_
  intro ps hT hpre W hW
  simp only [c_ReadToken, TyA, Ty, Tys] at hT hpre
  obtain ⟨_, _, rfl, ⟨key, rfl, hkey⟩, _, _, rfl, ⟨t, rfl, ht⟩, rfl⟩ := hT
  refine hW.vc [] _ _ ?_
  simp [-List.getD_eq_getElem?_getD, c_ReadToken, c_isLong, c_readToken]
  refine fun _ _ => ⟨by decide, fun h => ?_, fun h1 h2 => ?_⟩
  · have hb : longB key t = true := by rcases h with h | h <;> simp [longB, h]
    simp [RTC, RTW, RTN, RTK, hb]
  · have hb : longB key t = false := by simp [longB, h1, h2]
    have hk : key.length ≤ 65536 := by simp [longN] at h1; omega
    have ht : t.length ≤ 65536 := by simp [longN] at h2; omega
    exact ⟨⟨by omega, by omega⟩, by simp [RTC, RTW, RTN, RTK, hb]⟩
def c_sReadToken : FSpec := c_ReadToken
theorem k_sReadToken : FnOk Tryz.prog 18 c_sReadToken := by
  refine fn_mk [0, 1, 4, 5, 6, 7] [.tmp 4, .tmp 5, .tmp 6, .tmp 7] (env_cons (cs := []) k_l12Read (env_nil (tyTab_ok []))) mixed Tryz.func18 rfl (by decide) rfl (by decide) rfl ?_
  intro ps hT hpre W hW
  simp only [c_sReadToken, TyA, Ty, Tys] at hT hpre
  simp only [c_ReadToken, TyA, Ty, Tys] at hT
  obtain ⟨_, _, rfl, ⟨key, rfl, hkey⟩, _, _, rfl, ⟨t, rfl, ht⟩, rfl⟩ := hT
  refine hW.vc [] _ _ ?_
  simp [-List.getD_eq_getElem?_getD, c_sReadToken, c_l12Read, c_ReadToken, c_readToken, c_readToken]
  refine fun _ _ => ⟨fun h => ?_, fun h1 h2 => ⟨⟨by omega, by omega⟩, ?_⟩⟩
  · have hb : longB key t = true := by simp [longB, longN]; omega
    simp [RTC, RTW, RTN, RTK, hb]
  · have hb : longB key t = false := by simp [longB, longN]; omega
    simp [RTC, RTW, RTN, RTK, hb]
def c_exReadToken : FSpec := ⟨[(.rd, .str), (.rd, .str)], [.bool], true, fun _ => True, fun _ => [.bool true], fun _ => []⟩
theorem k_exReadToken : FnOk Tryz.prog 4 c_exReadToken := by
  refine fn_mk [0, 1, 4, 5, 6, 7, 8, 9, 10, 11, 12] [.tmp 4] (env_cons (cs := []) k_ReadToken (env_cons (cs := []) k_sReadToken (env_nil (tyTab_ok [])))) mixed Tryz.func4 rfl (by decide) rfl (by decide) rfl ?_
  intro ps hT hpre W hW
  simp only [c_exReadToken, TyA, Ty, Tys] at hT hpre
  obtain ⟨_, _, rfl, ⟨key, rfl, hkey⟩, _, _, rfl, ⟨t, rfl, ht⟩, rfl⟩ := hT
  refine hW.vc [] _ _ ?_
  simp [-List.getD_eq_getElem?_getD, c_exReadToken, c_sReadToken, c_ReadToken, c_ReadToken]

end Go.Proofs.YtolgjekokdimoaaGreatDoor
end

section
namespace Go.Proofs.YtolgjekokdimoaaGreatDoor
variable [LaidG]
variable [LaidN 0] [LaidN 1]
variable [LaidN 5]
variable [LaidN 2]
variable [LaidN 3] [LaidN 4]
set_option maxRecDepth 100000
set_option linter.unusedSimpArgs false

/-- One of 0 to n - 1, out of some bytes. -/
def atN (es : List PV) (i n : Int) : Int :=
  if n ≤ 1 then 0 else if es.length = 0 then (i * 7).tmod n else ((nth es (i.tmod es.length).toNat).I * 31 + (nth es ((i + 1).tmod es.length).toNat).I + i.tdiv es.length).tmod n
theorem atN_ok {es : List PV} {i n : Int} (hc : codeOk es) (hi : 0 ≤ i) (hn : 1 ≤ n) : 0 ≤ atN es i n ∧ atN es i n < n := by
  unfold atN
  split
  · omega
  · split
    · exact tm_ok _ _ (by omega) (by omega)
    · have h1 := tm_ok i es.length hi (by omega)
      have h2 := tm_ok (i + 1) es.length (by omega) (by omega)
      have h3 := hc _ (nth_mem (show (i.tmod es.length).toNat < es.length by omega))
      have h4 := hc _ (nth_mem (show ((i + 1).tmod es.length).toNat < es.length by omega))
      have h5 := Int.tdiv_nonneg hi (show (0 : Int) ≤ es.length by omega)
      exact tm_ok _ _ (by omega) (by omega)
def c_at : FSpec := ⟨[(.rd, .list (.int .u8)), (.rd, .int .i64), (.rd, .int .i64)], [.int .i64], true, fun ps => 0 ≤ (nth ps 1).I ∧ (nth ps 1).I ≤ 1000000, fun ps => [.int .i64 (atN (nth ps 0).L (nth ps 1).I (nth ps 2).I)], fun _ => []⟩
theorem k_at : FnOk Tryz.prog 21 c_at := by
  refine fn_mk [0, 1, 2, 6] [.tmp 6] (env_nil (tyTab_ok [])) mixed Tryz.func21 rfl (by decide) rfl (by decide) rfl ?_
  intro ps hT hpre W hW
  simp only [c_at, TyA, Ty, Tys] at hT hpre
  obtain ⟨_, _, rfl, ⟨es, rfl, hes, tes⟩, _, _, rfl, ⟨i, rfl, hi⟩, _, _, rfl, ⟨n, rfl, hn⟩, rfl⟩ := hT
  simp only [nth_zero, nth_succ, pv_I] at hpre
  refine hW.vc [(5, [], .take 0 <| .take 1 <| .take 2 <| .take 3 <| .take 4 <| .take 5 <| .take 6 <| .take 7 <| .take 8 <| .take 9 <| .take 10 <| .take 11 <| .take 12 <| .take 13 <| .take 14 <| .take 15 <| .take 16 <| .take 17 <| .take 18 <| .take 19 <| .take 20 <| .take 21 <| .take 22 <| .take 23 <| .take 24 <| .take 25 <| .alt 26 (.done) .stop)] _ _ ?_
  simp [-List.getD_eq_getElem?_getD, c_at]
  have hc := codeOk_ty ‹_›
  rw [wrap64 (n := i * 7) (by omega), wrap64 (n := i + 1) (by omega)]
  refine ⟨fun h => by simp [atN, h], fun h _ => ⟨fun h2 => ⟨by omega, by subst h2; simp [atN, show ¬ n ≤ 1 by omega]⟩, fun h2 => ?_⟩⟩
  have hl : 0 < es.length := List.length_pos_iff.2 h2
  have h1 := tm_ok i es.length hpre.1 (by omega)
  have h3 := tm_ok (i + 1) es.length (by omega) (by omega)
  have h4 := hc _ (nth_mem (show (i.tmod es.length).toNat < es.length by omega))
  have h5 := hc _ (nth_mem (show ((i + 1).tmod es.length).toNat < es.length by omega))
  have h6 := Int.tdiv_nonneg hpre.1 (show (0 : Int) ≤ es.length by omega)
  have h7 := Int.tdiv_le_self (es.length : Int) hpre.1
  refine ⟨by decide +kernel, fun _ => ⟨h2, ⟨h1.1, h1.2⟩, by omega, fun _ _ => ⟨h2, ⟨h3.1, h3.2⟩, by omega, fun _ _ => ⟨h2, by omega, ?_⟩⟩⟩⟩
  rw [wrap64 (n := (nth es (i.tmod es.length).toNat).I) (by omega), wrap64 (n := (nth es (i.tmod es.length).toNat).I * 31) (by omega), wrap64 (n := (nth es ((i + 1).tmod es.length).toNat).I) (by omega), wrap64 (n := i.tdiv es.length) (by omega),
    wrap64 (n := (nth es (i.tmod es.length).toNat).I * 31 + (nth es ((i + 1).tmod es.length).toNat).I) (by omega), wrap64 (n := (nth es (i.tmod es.length).toNat).I * 31 + (nth es ((i + 1).tmod es.length).toNat).I + i.tdiv es.length) (by omega)]
  simp [atN, show ¬ n ≤ 1 by omega, h2]
def mainW : List UInt8 := [109, 97, 105, 110]
theorem dec_no {n : Int} (h : -1 ≤ n) (h2 : n ≤ 200) : (∀ c ∈ decS n, c ≠ 32) ∧ numV (decS n) = (n, true) := by
  have : ∀ k : Fin 202, (∀ c ∈ decS ((k.val : Int) - 1), c ≠ 32) ∧ numV (decS ((k.val : Int) - 1)) = ((k.val : Int) - 1, true) := by decide +kernel
  have := this ⟨(n + 1).toNat, by omega⟩
  rwa [show (((n + 1).toNat : Nat) : Int) - 1 = n by omega] at this
theorem hexC_no (i : Nat) : hexC.getD i 0 ≠ 32 := by
  by_cases h : i < 16
  · have : ∀ k : Fin 16, hexC.getD k.val 0 ≠ 32 := by decide
    exact this ⟨i, h⟩
  · rw [List.getD_eq_getElem?_getD, List.getElem?_eq_none (by show 16 ≤ i; omega)]; decide
theorem mark_no (key head : List UInt8) : ∀ c ∈ markL key head, c ≠ 32 := by
  intro c hc
  have hc := List.mem_of_mem_take hc
  rw [hexB, List.mem_flatMap] at hc
  obtain ⟨b, _, hb⟩ := hc
  simp only [List.mem_cons, List.not_mem_nil, or_false] at hb
  rcases hb with rfl | rfl <;> exact hexC_no _
theorem token_cut (key : List UInt8) {c n : Int} (hc : 0 ≤ c ∧ c ≤ 200) (hn : -1 ≤ n ∧ n ≤ 60) : cutA 32 [] (tokenL key c mainW n) = [[116, 111, 107, 101, 110], decS c, mainW, decS n, markL key (headL c mainW n)] := by
  have e : tokenL key c mainW n = [116, 111, 107, 101, 110] ++ 32 :: (decS c ++ 32 :: (mainW ++ 32 :: (decS n ++ 32 :: markL key (headL c mainW n)))) := by
    rw [tokenL]
    conv => lhs; arg 1; rw [headL]
    simp
  rw [e, cutA_hit _ _ _ (by decide), cutA_hit _ _ _ (dec_no (by omega) hc.2).1, cutA_hit _ _ _ (by decide), cutA_hit _ _ _ (dec_no hn.1 (by omega)).1, cutA_no _ _ (mark_no _ _)]
  rfl
theorem main_told {c n : Int} (hc : 0 ≤ c ∧ c ≤ 200) (hn : -1 ≤ n ∧ n ≤ 60) : toldB c mainW n = true := by
  have : wordB mainW = true := by decide
  simp [toldB, inB, this]; omega
theorem token_read {key : List UInt8} {c n : Int} (hk : key.length ≤ 65536) (hc : 0 ≤ c ∧ c ≤ 200) (hn : -1 ≤ n ∧ n ≤ 60) :
    RTC key (tokenL key c mainW n) = c ∧ RTW key (tokenL key c mainW n) = mainW ∧ RTN key (tokenL key c mainW n) = n ∧ RTK key (tokenL key c mainW n) = 0 := by
  have hcut := token_cut key hc hn
  have hl : (headL c mainW n).length ≤ 26 := headL_len hc.1 hc.2 (by decide) hn.1 hn.2
  have hm := markL_len key (headL c mainW n)
  have hlen : (tokenL key c mainW n).length ≤ 65536 := by rw [tokenL]; simp [hm]; omega
  generalize hT : tokenL key c mainW n = tok at *
  have w0 : wordT tok 0 = [116, 111, 107, 101, 110] := by rw [wordT, hcut]; rfl
  have w1 : wordT tok 1 = decS c := by rw [wordT, hcut]; rfl
  have w2 : wordT tok 2 = mainW := by rw [wordT, hcut]; rfl
  have w3 : wordT tok 3 = decS n := by rw [wordT, hcut]; rfl
  have n1 : numV (decS c) = (c, true) := (dec_no (by omega) hc.2).2
  have n3 : numV (decS n) = (n, true) := (dec_no hn.1 (by omega)).2
  have ok : okT tok = true := okT_true (by rw [hcut]; rfl) (by rw [w1, n1]) (by rw [w3, n3]) (by rw [w1, w2, w3, n1, n3]; exact main_told hc hn) w0
  have sm : sameT key tok = true := by
    have c1 : cliT tok = c := by rw [cliT, w1, n1]
    have c3 : cntT tok = n := by rw [cntT, w3, n3]
    rw [sameT, c1, c3, w2, hT]; simp
  obtain ⟨r1, r2, r3, r4⟩ := rt_c (key := key) ok sm
  have hb : longB key tok = false := by simp [longB, longN]; omega
  refine ⟨?_, ?_, ?_, ?_⟩
  · rw [RTC, hb]; show rtC key tok = c; rw [r1, cliT, w1, n1]
  · rw [RTW, hb]; show rtW key tok = mainW; rw [r2, w2]
  · rw [RTN, hb]; show rtN key tok = n; rw [r3, cntT, w3, n3]
  · rw [RTK, hb]; show rtK key tok = 0; rw [r4]
theorem srcL_len (es : List PV) : ∀ (k : Nat) (s : Src) (acc : List PV), (srcL es k s acc).1.length = acc.length + k
  | 0, s, acc => rfl
  | k + 1, s, acc => by rw [srcL, srcL_len es k]; simp; omega
theorem srcBs_len {es : List PV} {s : Src} {n : Int} (hc : codeOk es) (h : srcOk s.p s.q 3) (hn : 0 ≤ n) : ((srcBs es s n).1.length : Int) ≤ n := by
  have := srcN_ok (n := n + 1) hc h (by omega)
  rw [srcBs, srcL_len]; simp; omega
theorem issue_ok {key : List UInt8} {c n : Int} (hk : key.length ≤ 65536) (hc : 0 ≤ c ∧ c ≤ 200) (hn : -1 ≤ n ∧ n ≤ 60) : issueV key c mainW n = (tokenL key c mainW n, 0) ∧ markV key c mainW n = (markL key (headL c mainW n), 0) := by
  have h1 := main_told hc hn
  have hb : longB key mainW = false := by
    have : mainW.length = 4 := rfl
    simp [longB, longN, this]; omega
  simp [issueV, markV, h1, hb]
def c_tokens : FSpec := ⟨[(.rd, .list (.int .u8)), (.rd, .list (.int .u8))], [.bool], true, fun _ => True, fun _ => [.bool true], fun _ => []⟩
theorem k_tokens : FnOk Tryz.prog 5 c_tokens := by
  refine fn_mk [0, 1, 4, 5, 6, 7, 8, 9, 10, 12, 13, 14, 15, 16, 17, 18, 19, 23, 27, 31, 35] [.tmp 4] (env_cons (cs := []) k_sReadToken (env_cons (cs := []) k_TokenMark (env_cons (cs := []) k_ReadToken (env_cons (cs := []) k_sIssueToken (env_cons (cs := []) k_IssueToken (env_cons (cs := []) k_at (env_cons (cs := []) k_BytesOf (env_nil (tyTab_ok []))))))))) mixed Tryz.func5 rfl (by decide) rfl (by decide) rfl ?_
  intro ps hT hpre W hW
  simp only [c_tokens, TyA, Ty, Tys] at hT hpre
  obtain ⟨_, _, rfl, ⟨es, rfl, hes, tes⟩, _, _, rfl, ⟨ms, rfl, hms, tms⟩, rfl⟩ := hT
  refine hW.vc [(13, [], .take 0 <| .take 1 <| .take 2 <| .take 3 <| .take 4 <| .take 5 <| .take 6 <| .take 10 <| .take 11 <| .take 12 <| .take 13 <| .alt 7 (.take 8 <| .take 9 <| .take 14 <| .alt 15 (.done) .stop) .stop)] _ _ ?_
  simp [-List.getD_eq_getElem?_getD, c_tokens, c_BytesOf, c_at, c_IssueToken, c_sIssueToken, c_ReadToken, c_TokenMark, c_sReadToken, c_IssueToken, c_ReadToken]
  have hce := codeOk_ty tes
  have hcm := codeOk_ty tms
  have hc := atN_ok (es := ms) (i := 0) (n := 201) hcm (by omega) (by omega)
  have hn := atN_ok (es := ms) (i := 1) (n := 62) hcm (by omega) (by omega)
  have hs := tm_ok (es.length : Int) 1000 (by omega) (by omega)
  have hkl := srcBs_len (es := es) (s := ⟨0, seed0 es⟩) (n := 40) hce ⟨by simp, by simp, hs.1, Int.lt_trans hs.2 (by omega)⟩ (by omega)
  rw [wrap64 (n := atN ms 1 62 - 1) (by omega)]
  have hkey : (pvBytes (srcBs es ⟨0, seed0 es⟩ 40).1).length ≤ 40 := by rw [pvBytes, List.length_map]; omega
  have hc' : 0 ≤ atN ms 0 201 ∧ atN ms 0 201 ≤ 200 := by omega
  have hn' : -1 ≤ atN ms 1 62 - 1 ∧ atN ms 1 62 - 1 ≤ 60 := by omega
  clear hkl
  generalize pvBytes (srcBs es ⟨0, seed0 es⟩ 40).1 = key at *
  generalize atN ms 0 201 = c at *
  generalize atN ms 1 62 - 1 = n at *
  obtain ⟨i1, i2⟩ := issue_ok (key := key) (by omega) hc' hn'
  obtain ⟨r1, r2, r3, r4⟩ := token_read (key := key) (by omega) hc' hn'
  have hl : (headL c mainW n).length ≤ 26 := headL_len hc'.1 hc'.2 (by decide) hn'.1 hn'.2
  have hm := markL_len key (headL c mainW n)
  have hd : (tokenL key c mainW n).drop ((tokenL key c mainW n).length - 32) = markL key (headL c mainW n) := by
    rw [tokenL, ← List.append_assoc, List.drop_left' (by simp [hm])]
  have hl2 : (tokenL key c mainW n).length = (headL c mainW n).length + 33 := by rw [tokenL]; simp [hm]
  replace i1 : issueV key c [109, 97, 105, 110] n = _ := i1
  replace i2 : markV key c [109, 97, 105, 110] n = _ := i2
  replace r2 : RTW key (tokenL key c mainW n) = [109, 97, 105, 110] := r2
  generalize tokenL key c mainW n = tok at *
  generalize markL key (headL c mainW n) = mk at *
  generalize (headL c mainW n).length = hlen at *
  have ew : (tok.length : Int) - 32 = (((tok.length - 32 : Nat)) : Int) := by omega
  rw [i1, i2]
  simp only [r1, r2, r3, r4, hm]
  rw [wrap64 (n := (tok.length : Int) - 32) (by omega), ew]
  simp [hd, hm]
  have ht : List.take (tok.length - (tok.length - 32)) mk = mk := List.take_of_length_le (by omega)
  have hk := atN_ok (es := ms) (i := 2) (n := tok.length) hcm (by omega) (by omega)
  rw [wrap64 (n := atN ms 2 tok.length + 1) (by omega)]
  have hp1 : ∀ x : PV, (pvBytes [x]).length = 1 := fun x => rfl
  rw [hp1]
  exact fun _ _ _ _ _ _ => ⟨⟨by omega, ht⟩, fun _ _ _ => ⟨by decide +kernel, ⟨by omega, by omega⟩, ⟨by omega, by omega⟩, ⟨by omega, by omega⟩, by omega, by omega, by omega⟩⟩

end Go.Proofs.YtolgjekokdimoaaGreatDoor
end

section
namespace Go.Proofs.YtolgjekokdimoaaGreatDoor
variable [LaidG]
set_option linter.unusedVariables false

def ptyOf (g : Bool) (l : List PTy) : PTy := if g then .agg l else l.headD .opq

mutual
/-- The types of data: their leaves. -/
inductive Dat (P : Program) : Nat → Bool → List PTy → Prop
  | int {t k} : P.underlying t = some (.int k) → t < P.types.size → Dat P t false [.int k]
  | bool {t} : P.underlying t = some .bool → t < P.types.size → Dat P t false [.bool]
  | str {t} : P.underlying t = some .string → t < P.types.size → Dat P t false [.str]
  | slice {t e g l} : P.underlying t = some (.slice e) → Dat P e g l → P.cellsOf e = l.length → 0 < l.length → 0 < P.bytesOf e → t < P.types.size → Dat P t false [.list (ptyOf g l)]
  | struct {t fs l} : P.underlying t = some (.struct fs) → Dats P (fs.toList.map (·.type)) l → P.cellsOf t = l.length → t < P.types.size → Dat P t true l
inductive Dats (P : Program) : List Nat → List PTy → Prop
  | nil : Dats P [] []
  | cons {t ts g l m} : Dat P t g l → P.cellsOf t = l.length → Dats P ts m → Dats P (t :: ts) (l ++ m)
end

section
variable {H : Type} {enc : TypeId × Value → H} {P : Program} {w : World} {base : Nat} {spare : Nat → Bool}

theorem Dat.lt {t : Nat} {g : Bool} {l : List PTy} (h : Dat P t g l) : t < P.types.size := by
  cases h <;> assumption

theorem dat_leaf {t : Nat} {l : List PTy} (h : Dat P t false l) : ∃ T, l = [T] ∧ ∀ ts, T ≠ .agg ts := by
  cases h <;> exact ⟨_, rfl, by simp⟩

theorem cells_get {base : Nat} {a : Addr} {n : Nat} {cs : List Value} (h : w.cells? base a n = some cs) : cs.length = n ∧ ∀ i, i < n → w.cell? (a.add i) = cs[i]? := by
  unfold World.cells? at h
  split at h
  · refine ⟨by simpa using mapM_some_length h, fun i hi => ?_⟩
    have := mapM_some_get h i i (by simp [hi])
    exact this
  · cases h

theorem lim_reach {n : Nat} (h : n ≤ reachBytes) : n ≤ LIM := by
  unfold reachBytes at h; unfold LIM; omega

/-- Elements, one after the other. -/
theorem elems_lv {g : Bool} {l : List PTy} {T : PTy} (hT : T = ptyOf g l) (hg : g = false → ∃ T, l = [T] ∧ ∀ ts, T ≠ .agg ts) : ∀ (css : List (List Value)), (∀ cs ∈ css, ∃ qs f, Lv w l qs cs f) →
    ∃ es f, es.length = css.length ∧ (∀ e ∈ es, Shp T e) ∧ Lv w (flatT T es.length) (flatP es) css.flatten f ∧ T.leaves = l
  | [], _ => ⟨[], [], rfl, by simp, by simpa [flatT, flatP] using Lv.nil, by
      subst hT
      cases g with
      | true => rfl
      | false => obtain ⟨T, rfl, h⟩ := hg rfl; cases T <;> first | rfl | exact absurd rfl (h _)⟩
  | cs :: css, h => by
    obtain ⟨es, f, e1, e2, e3, e4⟩ := elems_lv hT hg css fun x hx => h x (by simp [hx])
    obtain ⟨qs, f1, hq⟩ := h cs (by simp)
    have key : ∃ e, Shp T e ∧ e.leaves = qs := by
      subst hT
      cases g with
      | true => exact ⟨.agg qs, ⟨qs, rfl, hq.lens.1.symm⟩, rfl⟩
      | false =>
        obtain ⟨T, rfl, hn⟩ := hg rfl
        have hl := hq.lens.1
        match qs, hl with
        | [q], _ =>
          have hne := hq.leaves_of q (by simp)
          refine ⟨q, ?_, ?_⟩
          · show Shp T q
            cases T <;> first | exact hne | exact absurd rfl (hn _)
          · cases q <;> first | rfl | exact absurd rfl (hne _)
    obtain ⟨e, k1, k2⟩ := key
    refine ⟨e :: es, f1 ++ f, by simp [e1], ?_, ?_, e4⟩
    · intro x hx; rcases List.mem_cons.1 hx with rfl | hx
      · exact k1
      · exact e2 x hx
    · have q1 : flatT T (e :: es).length = T.leaves ++ flatT T es.length := by simp [flatT, List.replicate_succ]
      have q2 : flatP (e :: es) = e.leaves ++ flatP es := by simp [flatP]
      rw [q1, q2, e4, k2, List.flatten_cons]
      exact hq.append e3

theorem wf_inR {k : IntKind} {n : Int} (h : (Lit.int k n).wf = true) : inR k n := by
  unfold Lit.wf at h; unfold inR
  simpa only [Bool.and_eq_true, decide_eq_true_eq] using h

theorem row_take {c : Array Value} {ci : List Value} {o k : Nat} (h1 : ci.length = k) (h2 : ∀ j, j < k → c[o + j]? = ci[j]?) : (c.toList.drop o).take k = ci := by
  apply List.ext_getElem?
  intro j
  by_cases hj : j < k
  · rw [List.getElem?_take, if_pos hj, List.getElem?_drop, ← h2 j hj]; simp
  · rw [List.getElem?_take, if_neg hj, List.getElem?_eq_none (by omega)]

theorem rows_take {c : Array Value} {o k : Nat} : ∀ (css : List (List Value)) (i0 : Nat), (∀ i ci, css[i]? = some ci → ci.length = k ∧ ∀ j, j < k → c[o + (i0 + i) * k + j]? = ci[j]?) → (c.toList.drop (o + i0 * k)).take css.flatten.length = css.flatten
  | [], i0, _ => by simp
  | ci :: css, i0, h => by
    obtain ⟨h1, h2⟩ := h 0 ci (by simp)
    have ih := rows_take (c := c) (o := o) (k := k) css (i0 + 1) fun i cj hi => by
      have := h (i + 1) cj (by simpa using hi)
      rw [show i0 + (i + 1) = i0 + 1 + i by omega] at this
      exact this
    simp only [List.flatten_cons, List.length_append]
    rw [List.take_add, List.drop_drop, h1]
    congr 1
    · exact row_take h1 fun j hj => by simpa using h2 j hj
    · rw [show o + i0 * k + k = o + (i0 + 1) * k by rw [Nat.add_mul]; omega]
      exact ih

theorem weightsAll_mem {e : TypeId} : ∀ {ds : List (DataW H)} {d : DataW H}, d ∈ ds → ∀ y ∈ d.weights P e, y ∈ DataW.weightsAll P e ds
  | x :: ds, d, hd, y, hy => by
    simp only [DataW.weightsAll, List.mem_append]
    rcases List.mem_cons.1 hd with rfl | hd
    · exact .inl hy
    · exact .inr (weightsAll_mem hd y hy)

theorem dats_lv {n : Nat} {cs : List Value} (ih : ∀ t g l cs x, Dat P t g l → DataW.trod enc P w base spare true n t cs = some x → (∀ y ∈ x.1.weights P t, y ≤ reachBytes) → ∃ qs f, Lv w l qs cs f) : ∀ (fs : List Field) (l : List PTy) (xs : List (DataW H × List MemPlace)) (o : Nat), Dats P (fs.map Field.type) l →
  (∀ (j : Nat) (f : Field), fs[j]? = some f → f.offset = o + ((fs.take j).map fun (f : Field) => P.cellsOf f.type).sum) → (∀ (j : Nat) (f : Field), fs[j]? = some f → DataW.trod enc P w base spare true n f.type ((cs.drop f.offset).take (P.cellsOf f.type)) = xs[j]?) → xs.length = fs.length →
    (∀ y ∈ DataW.weightsEach P (fs.map Field.type) (xs.map (·.1)), y ≤ reachBytes) → ∃ qs f, Lv w l qs ((cs.drop o).take l.length) f
  | [], l, xs, o, hd, hof, hx, hlen, hw => by cases hd; exact ⟨[], [], by simpa using Lv.nil⟩
  | f :: fs, l, xs, o, hd, hof, hx, hlen, hw => by
    cases xs with
    | nil => simp at hlen
    | cons x xs =>
      simp only [List.map_cons] at hd hw
      cases hd with
      | @cons t ts g l1 m h1 h2 h3 =>
        have e0 := hof 0 f (by simp)
        simp only [List.take_zero, List.map_nil, List.sum_nil, Nat.add_zero] at e0
        have x0 := hx 0 f (by simp)
        simp only [List.getElem?_cons_zero, e0, h2] at x0
        simp only [DataW.weightsEach, List.mem_append] at hw
        obtain ⟨q1, f1, hq1⟩ := ih _ _ _ _ _ h1 x0 (fun y hy => hw y (.inl hy))
        obtain ⟨q2, f2, hq2⟩ := dats_lv ih fs m xs (o + l1.length) h3 (fun j f' hj => by
          have := hof (j + 1) f' (by simpa using hj)
          simp only [List.take_succ_cons, List.map_cons, List.sum_cons, h2] at this
          omega) (fun j f' hj => by simpa using hx (j + 1) f' (by simpa using hj)) (by simpa using hlen) (fun y hy => hw y (.inr hy))
        refine ⟨q1 ++ q2, f1 ++ f2, ?_⟩
        rw [List.length_append, List.take_add, List.drop_drop]
        exact hq1.append hq2

/-- What is read as data lies in memory as such. -/
theorem trod_lv (K : Kids P (· < P.types.size)) (hdt : ∀ t g l, Dat P t g l → t < P.types.size) : ∀ (n : Nat) (t : Nat) (g : Bool) (l : List PTy) (cs : List Value) (x : DataW H × List MemPlace), Dat P t g l → DataW.trod enc P w base spare true n t cs = some x → (∀ y ∈ x.1.weights P t, y ≤ reachBytes) → ∃ qs f, Lv w l qs cs f := by
  intro n
  induction n with
  | zero => intro t g l cs x _ h; simp [DataW.trod] at h
  | succ n ih =>
    intro t g l cs x hd h hw
    have hd0 := hd
    cases hd with
    | int ht _ =>
      obtain ⟨m, rfl, rfl, hwf⟩ := DataW.trod_int ht h
      exact ⟨[.int _ m], [], .int (wf_inR hwf) .nil⟩
    | bool ht _ =>
      obtain ⟨b, rfl, rfl⟩ := DataW.trod_bool ht h
      exact ⟨[.bool b], [], .bool .nil⟩
    | str ht _ =>
      obtain ⟨b, rfl, rfl, hl⟩ := DataW.trod_string ht h
      have := hw b.data.toList.length (by simp [DataW.weights])
      refine ⟨[.str b.data.toList], [], ?_⟩
      have hL := Lv.str (w := w) (lim_reach this) (Lv.nil (w := w))
      simpa using hL
    | @slice _ e g' l' ht he hc hpos hby _ =>
      rcases DataW.trod_slice ht h with ⟨rfl, rfl⟩ | ⟨a, len, cap, elems, rest, m, hm, rfl, rfl, hb, hle, hcap, hel, hget, _⟩
      · exact ⟨[.list []], [], .empty .nil⟩
      · have hmn : m = n := by omega
        subst hmn
        simp only [DataW.weights, ht, List.length_map, List.mem_cons, List.mem_append] at hw
        have hlim : len ≤ LIM := by
          have h1 := lim_reach (hw _ (.inl rfl))
          have h2 : elems.length * 1 ≤ (elems.length + rest.length) * P.bytesOf e := Nat.mul_le_mul (by omega) hby
          omega
        cases len with
        | zero => exact ⟨[.list []], [], .empty .nil⟩
        | succ len =>
          have hcell : ∀ i, i < len + 1 → ∃ ci y, w.cells? base (a.add (i * l'.length)) l'.length = some ci ∧ elems[i]? = some y ∧ ∃ qs f, Lv w l' qs ci f := by
            intro i hi
            have h1 := hget i hi
            have hy : elems[i]? = some elems[i] := by simp [hel, hi]
            rw [hy, hc] at h1
            cases hci : w.cells? base (a.add (i * l'.length)) l'.length with
            | none => rw [hci] at h1; cases h1
            | some ci =>
              rw [hci] at h1
              exact ⟨ci, _, rfl, hy, ih e g' l' ci _ he h1 fun y hy => hw y (.inr (.inl (weightsAll_mem (List.mem_map.2 ⟨_, List.getElem_mem (by omega), rfl⟩) y hy)))⟩
          let ci : Nat → List Value := fun i => (w.cells? base (a.add (i * l'.length)) l'.length).getD []
          have hci : ∀ i, i < len + 1 → w.cells? base (a.add (i * l'.length)) l'.length = some (ci i) ∧ ∃ qs f, Lv w l' qs (ci i) f := by
            intro i hi
            obtain ⟨c, y, h1, _, h2⟩ := hcell i hi
            have : ci i = c := by simp [ci, h1]
            rw [this]; exact ⟨h1, h2⟩
          have hT : ∃ T, T = ptyOf g' l' := ⟨_, rfl⟩
          obtain ⟨T, hT⟩ := hT
          obtain ⟨es, f, e1, e2, e3, e4⟩ := elems_lv (w := w) hT (fun hg => by subst hg; exact dat_leaf he) ((List.range (len + 1)).map ci) fun cs hcs => by
            obtain ⟨i, hi, rfl⟩ := List.mem_map.1 hcs
            exact (hci i (by simpa using hi)).2
          simp only [List.length_map, List.length_range] at e1
          obtain ⟨b, o, sp⟩ := a
          have h00 := (cells_get (hci 0 (by omega)).1)
          have h01 := h00.2 0 hpos
          have hne : ∃ u, (ci 0)[0]? = some u := ⟨(ci 0)[0]'(by omega), by simp [h00.1, hpos]⟩
          obtain ⟨u, hu⟩ := hne
          rw [hu] at h01
          have ha0 : (Addr.add ⟨b, o, sp⟩ (0 * l'.length)).add 0 = ⟨b, o, sp⟩ := by simp [Addr.add]
          rw [ha0] at h01
          simp only [World.cell?] at h01
          have hblk : ∃ c t' fr, w.heap[b]? = some (.cells c t' fr) ∧ sp = none := by
            split at h01
            · rename_i c t' fr hc'
              refine ⟨c, t', fr, hc', ?_⟩
              cases sp with
              | none => rfl
              | some _ => simp at h01
            · cases h01
          obtain ⟨c, t', fr, hblk, rfl⟩ := hblk
          refine ⟨[.list es], b :: f ++ [], ?_⟩
          subst hT
          have := Lv.list (cap := cap) (o := o) hblk e2 ⟨by omega, by omega⟩ e3 ?_ Lv.nil
          · rw [e1] at this
            exact this
          · have := rows_take (c := c) (o := o) (k := l'.length) ((List.range (len + 1)).map ci) 0 fun i cj hi => by
              simp only [List.getElem?_map, List.getElem?_range, Option.map_eq_some_iff] at hi
              obtain ⟨j, hj, rfl⟩ := hi
              have hij : i < len + 1 ∧ i = j := by
                by_cases hlt : i < len + 1
                · rw [List.getElem?_range hlt] at hj; cases hj; exact ⟨hlt, rfl⟩
                · rw [List.getElem?_eq_none (by simp; omega)] at hj; cases hj
              obtain ⟨hlt, rfl⟩ := hij
              obtain ⟨k1, k2⟩ := cells_get (hci i hlt).1
              refine ⟨k1, fun j hj => ?_⟩
              have := k2 j hj
              rw [addr_add, addr_add] at this
              simp only [World.cell?, hblk] at this
              rw [← this]
              simp [Nat.add_assoc]
            simpa using this
    | @struct _ fs l ht hds hc _ =>
      obtain ⟨xs, m, hm, rfl, hlen, hxl, hget⟩ := DataW.trod_struct ht h
      have hmn : m = n := by omega
      subst hmn
      obtain ⟨_, _, hoff⟩ := K.struct (hdt _ _ _ hd0) ht
      simp only [DataW.weights, ht] at hw
      obtain ⟨qs, f, hq⟩ := dats_lv (cs := cs) ih fs.toList l xs 0 hds (fun j f hj => by simpa using hoff j f hj) (fun j f hj => hget j f (by simpa using hj)) (by simpa using hxl) hw
      refine ⟨qs, f, ?_⟩
      rw [List.drop_zero, List.take_of_length_le (by omega)] at hq
      exact hq

end
end Go.Proofs.YtolgjekokdimoaaGreatDoor
end

section
namespace Go.Proofs.YtolgjekokdimoaaGreatDoor
variable [LaidG]
open Go.ChangeShapes Go.WideShapes Go.ChangeAt Go.RowKit
set_option linter.unusedVariables false

/-- The parameters of a law. -/
inductive ArgTys (P : Program) : List Nat → List (Md × PTy) → Prop
  | nil : ArgTys P [] []
  | cons {t ts g l ats} : Dat P t g l → ArgTys P ts ats → ArgTys P (t :: ts) ((.rd, ptyOf g l) :: ats)

section
variable {H : Type} {enc : TypeId × Value → H} {P : Program} {W W' : World}

theorem okWide_agg {base : Nat} {t : Nat} {l : List PTy} {v : Value} (hd : Dat P t true l) (h : Value.okWide P W .any base t v) : ∃ cs, v = .agg cs := by
  cases hd with
  | struct ht _ _ _ =>
    unfold Value.okWide at h
    rw [ht] at h
    obtain ⟨cs, h, _⟩ := h
    exact ⟨cs, h⟩

theorem okWide_leaf {base : Nat} {t : Nat} {l : List PTy} {v : Value} (hd : Dat P t false l) (h : Value.okWide P W .any base t v) : v.cells.toList = [v] := by
  cases hd with
  | int ht _ => unfold Value.okWide Cell.okWide Cell.ok at h; rw [ht] at h; cases v <;> first | rfl | (simp at h)
  | bool ht _ => unfold Value.okWide Cell.okWide Cell.ok at h; rw [ht] at h; cases v <;> first | rfl | (simp at h)
  | str ht _ => unfold Value.okWide Cell.okWide Cell.ok at h; rw [ht] at h; cases v <;> first | rfl | (simp at h)
  | slice ht _ _ _ _ _ => unfold Value.okWide Cell.okWide Cell.ok at h; rw [ht] at h; cases v <;> first | rfl | (simp at h)

theorem arg_lv (K : Kids P (· < P.types.size)) (hdt : ∀ t g l, Dat P t g l → t < P.types.size) {base : Nat} {t : Nat} {g : Bool} {l : List PTy} {v : Value} {d : DataW H} {p : List MemPlace} (hd : Dat P t g l) (hk : Value.okWide P W .any base t v)
    (h : DataW.Trod enc P W 0 (fun _ => true) true t v d p) (hw : ∀ y ∈ d.weights P t, y ≤ reachBytes) : ∃ q f, ArgV W (ptyOf g l) q v f f := by
  obtain ⟨n, h⟩ := h
  obtain ⟨qs, f, hL⟩ := trod_lv K hdt n t g l _ (d, p) hd h hw
  cases g with
  | true =>
    obtain ⟨cs, rfl⟩ := okWide_agg hd hk
    exact ⟨.agg qs, f, qs, cs.toList, rfl, by simp, hL, rfl⟩
  | false =>
    rw [okWide_leaf hd hk] at hL
    obtain ⟨T, rfl, hn⟩ := dat_leaf hd
    have hl := hL.lens.1
    match qs, hl with
    | [q], _ =>
      refine ⟨q, f, ?_⟩
      show ArgV W T q v f f
      cases T with
      | agg ts => exact absurd rfl (hn ts)
      | box ts => cases hL
      | abx t => cases hL
      | fn g ts => cases hL
      | opq => cases hL
      | int k => exact ⟨hL, rfl⟩
      | bool => exact ⟨hL, rfl⟩
      | str => exact ⟨hL, rfl⟩
      | list t => exact ⟨hL, rfl⟩

theorem args_lv (K : Kids P (· < P.types.size)) (hdt : ∀ t g l, Dat P t g l → t < P.types.size) {base : Nat} : ∀ {ts : List Nat} {ats : List (Md × PTy)} {vs : List Value} {ds : List (DataW H)} {ps : List MemPlace}, ArgTys P ts ats →
    (∀ (j : Nat) t v, ts[j]? = some t → vs[j]? = some v → Value.okWide P W .any base t v) → DataW.TrodAll enc P W 0 (fun _ => true) true ts vs ds ps → (∀ y ∈ DataW.weightsEach P ts ds, y ≤ reachBytes) →
    ∃ qs fs, ArgsV W ats qs vs fs fs []
  | [], ats, vs, ds, ps, ha, hk, h, hw => by
    cases ha
    cases vs <;> cases ds <;> simp [DataW.TrodAll] at h
    exact ⟨[], [], .nil⟩
  | t :: ts, ats, [], ds, ps, ha, hk, h, hw => by cases ds <;> simp [DataW.TrodAll] at h
  | t :: ts, ats, v :: vs, [], ps, ha, hk, h, hw => by simp [DataW.TrodAll] at h
  | t :: ts, ats, v :: vs, d :: ds, ps, ha, hk, h, hw => by
    cases ha with
    | @cons _ _ g l ats' hd ha =>
      obtain ⟨p, q, h1, h2, rfl⟩ := h
      simp only [DataW.weightsEach, List.mem_append] at hw
      obtain ⟨q1, f1, k1⟩ := arg_lv K hdt hd (hk 0 t v (by simp) (by simp)) h1 (fun y hy => hw y (.inl hy))
      obtain ⟨qs, fs, k2⟩ := args_lv K hdt ha (fun j t' v' hj hv => hk (j + 1) t' v' (by simpa using hj) (by simpa using hv)) h2 (fun y hy => hw y (.inr hy))
      exact ⟨q1 :: qs, f1 ++ fs, .rd k1 k2⟩

theorem sameAt_fr (h : Fr W [] W') {p : MemPlace} (hp : p.block < W.heap.size) : W.sameAt W' p := by
  have hb := h.block p.block hp (by simp)
  cases p with
  | cell b o => simp only [World.sameAt, World.cell?]; rw [show W'.heap[b]? = W.heap[b]? from hb]
  | map b => exact hb

theorem trodAll_fr (h : Fr W [] W') {sp : Nat → Bool} : ∀ {ts : List TypeId} {vs : List Value} {ds : List (DataW H)} {ps : List MemPlace}, DataW.TrodAll enc P W 0 sp true ts vs ds ps → (∀ p ∈ ps, p.block < W.heap.size) → DataW.TrodAll enc P W' 0 sp true ts vs ds ps
  | [], [], [], _, h0, _ => h0
  | [], [], _ :: _, _, h0, _ => h0.elim
  | [], _ :: _, _, _, h0, _ => h0.elim
  | _ :: _, [], _, _, h0, _ => h0.elim
  | _ :: _, _ :: _, [], _, h0, _ => h0.elim
  | t :: ts, v :: vs, d :: ds, _, ⟨p, q, ⟨n, h1⟩, h2, e⟩, hl => by
    subst e
    exact ⟨p, q, ⟨n, DataW.trod_carry n t _ _ h1 fun x hx => sameAt_fr h (hl x (List.mem_append_left _ hx))⟩, trodAll_fr h h2 fun x hx => hl x (List.mem_append_right _ hx), rfl⟩

theorem keptBut_fr (h : Fr W [] W') (may : MemPlace → Prop) : W.keptBut W' may := by
  refine ⟨h.os, h.output, fun i hi => ?_⟩
  rw [h.block i hi (by simp)]
  have := (World.keptBut_refl W may).2.2 i hi
  exact this

/-- A law's contract is its row's. -/
theorem law_post {fn : Func} {f : FuncId} {s : ChangeSpec} {c : FSpec} {tb : Nat} {base : Nat} {args : Array Value} {ds gs : List (DataW H)} {before : List MemPlace} (hl : laidOutB P = true) (hmr : mapsRowed P = true)
    (hsl : ((List.range P.types.size).all fun t => match P.underlying t with | some (.slice e) => decide (0 < P.cellsOf e) | _ => true) = true)
    (hdt : ∀ t g l, Dat P t g l → t < P.types.size) (hm : Meets P f c) (hG : GlOk W []) (ha : ArgTys P fn.params.toList c.args) (hpar : ∀ t ∈ fn.params.toList, t < P.types.size) (hb : P.underlying tb = some .bool) (hres : fn.resultTypes = #[tb])
    (hv : s.vars = []) (hfn : ∀ H ds, ds.length = fn.params.size → (s.fn H ds).results = [.lit (.bool true)] ∧ (s.fn H ds).args = ds ∧ (s.fn H ds).vars = [])
    (hc : c.ret = [.bool] ∧ c.fresh = true ∧ (∀ ps, c.pre ps) ∧ ∀ ps, c.res ps = [.bool true]) (hrd : allRd c.args = true)
    (hval : ∀ (j : Nat) t v, fn.params[j]? = some t → args[j]? = some v → Value.okWide P W .any base t v)
    (hW : DataW.Whole enc P fn.params.toList s.vars false W args.toList ds gs before)
    (hwt : (DataW.weightsEach P (fn.params.toList ++ s.plain.varTypes P) (ds ++ gs)).all (· ≤ reachBytes) = true) :
    Calls P f args W fun e W' => ∃ v, e = .returned v ∧ s.post enc P fn false true false false W args v W' := by
  have hW' := hW
  have hlt := hW.lt
  obtain ⟨p, q, hA, hV, rfl, hfz, _⟩ := hW
  rw [hv] at hV
  have hg : gs = [] ∧ q = [] := by
    cases gs with
    | nil => exact ⟨rfl, hV⟩
    | cons _ _ => exact hV.elim
  obtain ⟨rfl, rfl⟩ := hg
  have hdl : ∀ {ts : List TypeId} {vs : List Value} {ds : List (DataW H)} {ps : List MemPlace}, DataW.TrodAll enc P W 0 (fun _ => true) true ts vs ds ps → ds.length = ts.length := by
    intro ts
    induction ts with
    | nil => intro vs ds ps h; cases vs <;> cases ds <;> simp [DataW.TrodAll] at h ⊢
    | cons t ts ih => intro vs ds ps h; cases vs <;> cases ds <;> simp [DataW.TrodAll] at h ⊢; obtain ⟨_, _, _, h2, _⟩ := h; exact ih h2
  have hlen := hdl hA
  have hvt : s.plain.varTypes P = [] := by simp [ChangeSpec.plain, DataSpec.varTypes, hv]
  simp only [List.append_nil, hvt] at hwt hW'
  have K := kids_rows hl hmr
  obtain ⟨qs, fs, hargs⟩ := args_lv K hdt ha (fun j t v hj hv' => hval j t v (by simpa using hj) (by simpa using hv')) hA (fun y hy => by simpa using List.all_eq_true.1 hwt y hy)
  obtain ⟨c1, c2, c3, c4⟩ := hc
  obtain ⟨r1, r2, r3⟩ := hfn H ds (by simpa using hlen)
  have hcall := hm W qs _ fs fs [] hargs (by simp) (by simp) (c3 qs) hG
  simp only [Array.toArray_toList] at hcall
  refine hcall.mono fun e W' he => ?_
  obtain ⟨rvs, rfl, hFr, hcase⟩ := he
  have hret : ∃ fr, RetVs W' c.ret (c.res qs) rvs fr := by
    rcases hcase with ⟨_, fr, mo, h, _⟩ | ⟨h, _⟩
    · exact ⟨fr, h⟩
    · rw [c2] at h; cases h
  obtain ⟨fr, hret⟩ := hret
  rw [c1, c4] at hret
  have hrv : rvs = [.bool true] := by
    cases hret with
    | cons h1 h2 =>
      cases h2
      obtain ⟨fs', h1, _⟩ := h1
      cases h1 with
      | bool h => cases h; rfl
  subst hrv
  have hsame : ∀ sp : Nat → Bool, (∀ x ∈ p, sp x.block = true) → DataW.TrodAll enc P W' 0 sp true fn.params.toList args.toList ds p := fun sp hsp =>
    trodAll_fr hFr (hA.respare (T := (· < P.types.size)) K (fun t e ht => slices_full_of P hsl t e ht) hpar hsp) (fun x hx => hlt x (by simp [hx]))
  refine ⟨_, rfl, ds, [], p, [], p, [], by simpa using hW', ?_, ?_, ?_, keptBut_fr hFr _, fun h => by cases h⟩
  · simp only [List.append_nil, r1, hres]
    exact trodAll_cons_mk (shut_bool hb _) trodAll_mk0
  · simp only [List.append_nil, r2]
    exact hsame _ fun x hx => by simpa using hlt x (by simp [hx])
  · simp only [List.append_nil, r3, hv]; rfl

end
end Go.Proofs.YtolgjekokdimoaaGreatDoor
end

section
namespace Go.Proofs.YtolgjekokdimoaaGreatDoor
variable [LaidG]
set_option maxRecDepth 100000

theorem lt2 : 2 < Tryz.prog.types.size := of_decide_eq_true (by kernel_rfl)
theorem D2 : Dat Tryz.prog 2 false [.int .i64] := .int Tryz.underlying2 lt2
theorem lt3 : 3 < Tryz.prog.types.size := of_decide_eq_true (by kernel_rfl)
theorem D3 : Dat Tryz.prog 3 false [.int .i64] := .int Tryz.underlying3 lt3
theorem lt4 : 4 < Tryz.prog.types.size := of_decide_eq_true (by kernel_rfl)
theorem D4 : Dat Tryz.prog 4 false [.bool] := .bool Tryz.underlying4 lt4
theorem lt5 : 5 < Tryz.prog.types.size := of_decide_eq_true (by kernel_rfl)
theorem D5 : Dat Tryz.prog 5 false [.int .u8] := .int Tryz.underlying5 lt5
theorem lt6 : 6 < Tryz.prog.types.size := of_decide_eq_true (by kernel_rfl)
theorem D6 : Dat Tryz.prog 6 false [.int .u8] := .int Tryz.underlying6 lt6
theorem lt7 : 7 < Tryz.prog.types.size := of_decide_eq_true (by kernel_rfl)
theorem D7 : Dat Tryz.prog 7 true [.int .i64, .int .i64, .bool, .int .u8] := .struct Tryz.underlying7 (.cons (l := [.int .i64]) (m := [.int .i64, .bool, .int .u8]) D2 (by kernel_rfl) (.cons (l := [.int .i64]) (m := [.bool, .int .u8]) D3 (by kernel_rfl) (.cons (l := [.bool]) (m := [.int .u8]) D4 (by kernel_rfl) (.cons (l := [.int .u8]) (m := []) D6 (by kernel_rfl) .nil)))) (by kernel_rfl) lt7
theorem lt8 : 8 < Tryz.prog.types.size := of_decide_eq_true (by kernel_rfl)
theorem D8 : Dat Tryz.prog 8 true [.int .i64, .int .i64, .bool, .int .u8] := .struct Tryz.underlying8 (.cons (l := [.int .i64]) (m := [.int .i64, .bool, .int .u8]) D2 (by kernel_rfl) (.cons (l := [.int .i64]) (m := [.bool, .int .u8]) D3 (by kernel_rfl) (.cons (l := [.bool]) (m := [.int .u8]) D4 (by kernel_rfl) (.cons (l := [.int .u8]) (m := []) D6 (by kernel_rfl) .nil)))) (by kernel_rfl) lt8
theorem lt9 : 9 < Tryz.prog.types.size := of_decide_eq_true (by kernel_rfl)
theorem D9 : Dat Tryz.prog 9 false [.str] := .str Tryz.underlying9 lt9
theorem lt10 : 10 < Tryz.prog.types.size := of_decide_eq_true (by kernel_rfl)
theorem D10 : Dat Tryz.prog 10 false [.str] := .str Tryz.underlying10 lt10
theorem lt11 : 11 < Tryz.prog.types.size := of_decide_eq_true (by kernel_rfl)
theorem D11 : Dat Tryz.prog 11 false [.str] := .str Tryz.underlying11 lt11
theorem lt12 : 12 < Tryz.prog.types.size := of_decide_eq_true (by kernel_rfl)
theorem D12 : Dat Tryz.prog 12 false [.int .u64] := .int Tryz.underlying12 lt12
theorem lt13 : 13 < Tryz.prog.types.size := of_decide_eq_true (by kernel_rfl)
theorem D13 : Dat Tryz.prog 13 true [.str, .int .u64] := .struct Tryz.underlying13 (.cons (l := [.str]) (m := [.int .u64]) D9 (by kernel_rfl) (.cons (l := [.int .u64]) (m := []) D12 (by kernel_rfl) .nil)) (by kernel_rfl) lt13
theorem lt14 : 14 < Tryz.prog.types.size := of_decide_eq_true (by kernel_rfl)
theorem D14 : Dat Tryz.prog 14 true [.str, .int .u64] := .struct Tryz.underlying14 (.cons (l := [.str]) (m := [.int .u64]) D9 (by kernel_rfl) (.cons (l := [.int .u64]) (m := []) D12 (by kernel_rfl) .nil)) (by kernel_rfl) lt14
theorem lt21 : 21 < Tryz.prog.types.size := of_decide_eq_true (by kernel_rfl)
theorem D21 : Dat Tryz.prog 21 false [.int .i32] := .int Tryz.underlying21 lt21
theorem lt22 : 22 < Tryz.prog.types.size := of_decide_eq_true (by kernel_rfl)
theorem D22 : Dat Tryz.prog 22 false [.list (.str)] := .slice (e := 9) (g := false) (l := [.str]) Tryz.underlying22 D9 (by kernel_rfl) (by decide) (of_decide_eq_true (by kernel_rfl)) lt22
theorem lt23 : 23 < Tryz.prog.types.size := of_decide_eq_true (by kernel_rfl)
theorem D23 : Dat Tryz.prog 23 true [.int .i64, .int .i64, .int .i64, .list (.str)] := .struct Tryz.underlying23 (.cons (l := [.int .i64]) (m := [.int .i64, .int .i64, .list (.str)]) D3 (by kernel_rfl) (.cons (l := [.int .i64]) (m := [.int .i64, .list (.str)]) D3 (by kernel_rfl) (.cons (l := [.int .i64]) (m := [.list (.str)]) D3 (by kernel_rfl) (.cons (l := [.list (.str)]) (m := []) D22 (by kernel_rfl) .nil)))) (by kernel_rfl) lt23
theorem lt24 : 24 < Tryz.prog.types.size := of_decide_eq_true (by kernel_rfl)
theorem D24 : Dat Tryz.prog 24 true [.int .i64, .int .i64, .int .i64, .list (.str)] := .struct Tryz.underlying24 (.cons (l := [.int .i64]) (m := [.int .i64, .int .i64, .list (.str)]) D3 (by kernel_rfl) (.cons (l := [.int .i64]) (m := [.int .i64, .list (.str)]) D3 (by kernel_rfl) (.cons (l := [.int .i64]) (m := [.list (.str)]) D3 (by kernel_rfl) (.cons (l := [.list (.str)]) (m := []) D22 (by kernel_rfl) .nil)))) (by kernel_rfl) lt24
theorem lt25 : 25 < Tryz.prog.types.size := of_decide_eq_true (by kernel_rfl)
theorem D25 : Dat Tryz.prog 25 true [.int .i64, .str, .str, .int .i64, .int .i64, .int .i64, .list (.str)] := .struct Tryz.underlying25 (.cons (l := [.int .i64]) (m := [.str, .str, .int .i64, .int .i64, .int .i64, .list (.str)]) D3 (by kernel_rfl) (.cons (l := [.str]) (m := [.str, .int .i64, .int .i64, .int .i64, .list (.str)]) D9 (by kernel_rfl) (.cons (l := [.str]) (m := [.int .i64, .int .i64, .int .i64, .list (.str)]) D9 (by kernel_rfl) (.cons (l := [.int .i64, .int .i64, .int .i64, .list (.str)]) (m := []) D24 (by kernel_rfl) .nil)))) (by kernel_rfl) lt25
theorem lt26 : 26 < Tryz.prog.types.size := of_decide_eq_true (by kernel_rfl)
theorem D26 : Dat Tryz.prog 26 true [.int .i64, .str, .str, .int .i64, .int .i64, .int .i64, .list (.str)] := .struct Tryz.underlying26 (.cons (l := [.int .i64]) (m := [.str, .str, .int .i64, .int .i64, .int .i64, .list (.str)]) D3 (by kernel_rfl) (.cons (l := [.str]) (m := [.str, .int .i64, .int .i64, .int .i64, .list (.str)]) D9 (by kernel_rfl) (.cons (l := [.str]) (m := [.int .i64, .int .i64, .int .i64, .list (.str)]) D9 (by kernel_rfl) (.cons (l := [.int .i64, .int .i64, .int .i64, .list (.str)]) (m := []) D24 (by kernel_rfl) .nil)))) (by kernel_rfl) lt26
theorem lt98 : 98 < Tryz.prog.types.size := of_decide_eq_true (by kernel_rfl)
theorem D98 : Dat Tryz.prog 98 true [.int .i64, .str] := .struct Tryz.underlying98 (.cons (l := [.int .i64]) (m := [.str]) D3 (by kernel_rfl) (.cons (l := [.str]) (m := []) D9 (by kernel_rfl) .nil)) (by kernel_rfl) lt98
theorem lt27 : 27 < Tryz.prog.types.size := of_decide_eq_true (by kernel_rfl)
theorem D27 : Dat Tryz.prog 27 false [.list (.agg [.int .i64, .str])] := .slice (e := 98) (g := true) (l := [.int .i64, .str]) Tryz.underlying27 D98 (by kernel_rfl) (by decide) (of_decide_eq_true (by kernel_rfl)) lt27
theorem lt28 : 28 < Tryz.prog.types.size := of_decide_eq_true (by kernel_rfl)
theorem D28 : Dat Tryz.prog 28 true [.int .i64, .int .i64, .bool, .int .i64, .int .i64, .list (.agg [.int .i64, .str])] := .struct Tryz.underlying28 (.cons (l := [.int .i64]) (m := [.int .i64, .bool, .int .i64, .int .i64, .list (.agg [.int .i64, .str])]) D3 (by kernel_rfl) (.cons (l := [.int .i64]) (m := [.bool, .int .i64, .int .i64, .list (.agg [.int .i64, .str])]) D3 (by kernel_rfl) (.cons (l := [.bool]) (m := [.int .i64, .int .i64, .list (.agg [.int .i64, .str])]) D4 (by kernel_rfl) (.cons (l := [.int .i64]) (m := [.int .i64, .list (.agg [.int .i64, .str])]) D3 (by kernel_rfl) (.cons (l := [.int .i64]) (m := [.list (.agg [.int .i64, .str])]) D3 (by kernel_rfl) (.cons (l := [.list (.agg [.int .i64, .str])]) (m := []) D27 (by kernel_rfl) .nil)))))) (by kernel_rfl) lt28
theorem lt29 : 29 < Tryz.prog.types.size := of_decide_eq_true (by kernel_rfl)
theorem D29 : Dat Tryz.prog 29 true [.int .i64, .int .i64, .bool, .int .i64, .int .i64, .list (.agg [.int .i64, .str])] := .struct Tryz.underlying29 (.cons (l := [.int .i64]) (m := [.int .i64, .bool, .int .i64, .int .i64, .list (.agg [.int .i64, .str])]) D3 (by kernel_rfl) (.cons (l := [.int .i64]) (m := [.bool, .int .i64, .int .i64, .list (.agg [.int .i64, .str])]) D3 (by kernel_rfl) (.cons (l := [.bool]) (m := [.int .i64, .int .i64, .list (.agg [.int .i64, .str])]) D4 (by kernel_rfl) (.cons (l := [.int .i64]) (m := [.int .i64, .list (.agg [.int .i64, .str])]) D3 (by kernel_rfl) (.cons (l := [.int .i64]) (m := [.list (.agg [.int .i64, .str])]) D3 (by kernel_rfl) (.cons (l := [.list (.agg [.int .i64, .str])]) (m := []) D27 (by kernel_rfl) .nil)))))) (by kernel_rfl) lt29
theorem lt32 : 32 < Tryz.prog.types.size := of_decide_eq_true (by kernel_rfl)
theorem D32 : Dat Tryz.prog 32 true [.int .i64, .int .i64, .int .i64, .list (.str)] := .struct Tryz.underlying32 (.cons (l := [.int .i64]) (m := [.int .i64, .int .i64, .list (.str)]) D3 (by kernel_rfl) (.cons (l := [.int .i64]) (m := [.int .i64, .list (.str)]) D3 (by kernel_rfl) (.cons (l := [.int .i64]) (m := [.list (.str)]) D3 (by kernel_rfl) (.cons (l := [.list (.str)]) (m := []) D22 (by kernel_rfl) .nil)))) (by kernel_rfl) lt32
theorem lt33 : 33 < Tryz.prog.types.size := of_decide_eq_true (by kernel_rfl)
theorem D33 : Dat Tryz.prog 33 true [.int .i64, .str, .str, .int .i64, .int .i64, .int .i64, .list (.str)] := .struct Tryz.underlying33 (.cons (l := [.int .i64]) (m := [.str, .str, .int .i64, .int .i64, .int .i64, .list (.str)]) D3 (by kernel_rfl) (.cons (l := [.str]) (m := [.str, .int .i64, .int .i64, .int .i64, .list (.str)]) D9 (by kernel_rfl) (.cons (l := [.str]) (m := [.int .i64, .int .i64, .int .i64, .list (.str)]) D9 (by kernel_rfl) (.cons (l := [.int .i64, .int .i64, .int .i64, .list (.str)]) (m := []) D32 (by kernel_rfl) .nil)))) (by kernel_rfl) lt33
theorem lt34 : 34 < Tryz.prog.types.size := of_decide_eq_true (by kernel_rfl)
theorem D34 : Dat Tryz.prog 34 true [.int .i64, .str, .str, .int .i64, .int .i64, .int .i64, .list (.str)] := .struct Tryz.underlying34 (.cons (l := [.int .i64]) (m := [.str, .str, .int .i64, .int .i64, .int .i64, .list (.str)]) D3 (by kernel_rfl) (.cons (l := [.str]) (m := [.str, .int .i64, .int .i64, .int .i64, .list (.str)]) D9 (by kernel_rfl) (.cons (l := [.str]) (m := [.int .i64, .int .i64, .int .i64, .list (.str)]) D9 (by kernel_rfl) (.cons (l := [.int .i64, .int .i64, .int .i64, .list (.str)]) (m := []) D32 (by kernel_rfl) .nil)))) (by kernel_rfl) lt34
theorem lt94 : 94 < Tryz.prog.types.size := of_decide_eq_true (by kernel_rfl)
theorem D94 : Dat Tryz.prog 94 true [.int .i64, .str] := .struct Tryz.underlying94 (.cons (l := [.int .i64]) (m := [.str]) D3 (by kernel_rfl) (.cons (l := [.str]) (m := []) D9 (by kernel_rfl) .nil)) (by kernel_rfl) lt94
theorem lt38 : 38 < Tryz.prog.types.size := of_decide_eq_true (by kernel_rfl)
theorem D38 : Dat Tryz.prog 38 false [.list (.agg [.int .i64, .str])] := .slice (e := 94) (g := true) (l := [.int .i64, .str]) Tryz.underlying38 D94 (by kernel_rfl) (by decide) (of_decide_eq_true (by kernel_rfl)) lt38
theorem lt39 : 39 < Tryz.prog.types.size := of_decide_eq_true (by kernel_rfl)
theorem D39 : Dat Tryz.prog 39 true [.int .i64, .int .i64, .bool, .int .i64, .int .i64, .list (.agg [.int .i64, .str])] := .struct Tryz.underlying39 (.cons (l := [.int .i64]) (m := [.int .i64, .bool, .int .i64, .int .i64, .list (.agg [.int .i64, .str])]) D3 (by kernel_rfl) (.cons (l := [.int .i64]) (m := [.bool, .int .i64, .int .i64, .list (.agg [.int .i64, .str])]) D3 (by kernel_rfl) (.cons (l := [.bool]) (m := [.int .i64, .int .i64, .list (.agg [.int .i64, .str])]) D4 (by kernel_rfl) (.cons (l := [.int .i64]) (m := [.int .i64, .list (.agg [.int .i64, .str])]) D3 (by kernel_rfl) (.cons (l := [.int .i64]) (m := [.list (.agg [.int .i64, .str])]) D3 (by kernel_rfl) (.cons (l := [.list (.agg [.int .i64, .str])]) (m := []) D38 (by kernel_rfl) .nil)))))) (by kernel_rfl) lt39
theorem lt40 : 40 < Tryz.prog.types.size := of_decide_eq_true (by kernel_rfl)
theorem D40 : Dat Tryz.prog 40 true [.int .i64, .int .i64, .bool, .int .i64, .int .i64, .list (.agg [.int .i64, .str])] := .struct Tryz.underlying40 (.cons (l := [.int .i64]) (m := [.int .i64, .bool, .int .i64, .int .i64, .list (.agg [.int .i64, .str])]) D3 (by kernel_rfl) (.cons (l := [.int .i64]) (m := [.bool, .int .i64, .int .i64, .list (.agg [.int .i64, .str])]) D3 (by kernel_rfl) (.cons (l := [.bool]) (m := [.int .i64, .int .i64, .list (.agg [.int .i64, .str])]) D4 (by kernel_rfl) (.cons (l := [.int .i64]) (m := [.int .i64, .list (.agg [.int .i64, .str])]) D3 (by kernel_rfl) (.cons (l := [.int .i64]) (m := [.list (.agg [.int .i64, .str])]) D3 (by kernel_rfl) (.cons (l := [.list (.agg [.int .i64, .str])]) (m := []) D38 (by kernel_rfl) .nil)))))) (by kernel_rfl) lt40
theorem lt50 : 50 < Tryz.prog.types.size := of_decide_eq_true (by kernel_rfl)
theorem D50 : Dat Tryz.prog 50 false [.list (.int .u8)] := .slice (e := 5) (g := false) (l := [.int .u8]) Tryz.underlying50 D5 (by kernel_rfl) (by decide) (of_decide_eq_true (by kernel_rfl)) lt50
theorem lt93 : 93 < Tryz.prog.types.size := of_decide_eq_true (by kernel_rfl)
theorem D93 : Dat Tryz.prog 93 true [.int .i64, .str] := .struct Tryz.underlying93 (.cons (l := [.int .i64]) (m := [.str]) D3 (by kernel_rfl) (.cons (l := [.str]) (m := []) D9 (by kernel_rfl) .nil)) (by kernel_rfl) lt93
theorem lt103 : 103 < Tryz.prog.types.size := of_decide_eq_true (by kernel_rfl)
theorem D103 : Dat Tryz.prog 103 false [.list (.int .i64)] := .slice (e := 3) (g := false) (l := [.int .i64]) Tryz.underlying103 D3 (by kernel_rfl) (by decide) (of_decide_eq_true (by kernel_rfl)) lt103
theorem lt112 : 112 < Tryz.prog.types.size := of_decide_eq_true (by kernel_rfl)
theorem D112 : Dat Tryz.prog 112 true [.list (.int .u8), .int .i64, .int .i64] := .struct Tryz.underlying112 (.cons (l := [.list (.int .u8)]) (m := [.int .i64, .int .i64]) D50 (by kernel_rfl) (.cons (l := [.int .i64]) (m := [.int .i64]) D3 (by kernel_rfl) (.cons (l := [.int .i64]) (m := []) D3 (by kernel_rfl) .nil))) (by kernel_rfl) lt112
theorem lt113 : 113 < Tryz.prog.types.size := of_decide_eq_true (by kernel_rfl)
theorem D113 : Dat Tryz.prog 113 true [.list (.int .u8), .int .i64, .int .i64] := .struct Tryz.underlying113 (.cons (l := [.list (.int .u8)]) (m := [.int .i64, .int .i64]) D50 (by kernel_rfl) (.cons (l := [.int .i64]) (m := [.int .i64]) D3 (by kernel_rfl) (.cons (l := [.int .i64]) (m := []) D3 (by kernel_rfl) .nil))) (by kernel_rfl) lt113
theorem lt137 : 137 < Tryz.prog.types.size := of_decide_eq_true (by kernel_rfl)
theorem D137 : Dat Tryz.prog 137 true [.int .i64, .int .i64] := .struct Tryz.underlying137 (.cons (l := [.int .i64]) (m := [.int .i64]) D3 (by kernel_rfl) (.cons (l := [.int .i64]) (m := []) D3 (by kernel_rfl) .nil)) (by kernel_rfl) lt137
theorem lt116 : 116 < Tryz.prog.types.size := of_decide_eq_true (by kernel_rfl)
theorem D116 : Dat Tryz.prog 116 false [.list (.agg [.int .i64, .int .i64])] := .slice (e := 137) (g := true) (l := [.int .i64, .int .i64]) Tryz.underlying116 D137 (by kernel_rfl) (by decide) (of_decide_eq_true (by kernel_rfl)) lt116
theorem lt117 : 117 < Tryz.prog.types.size := of_decide_eq_true (by kernel_rfl)
theorem D117 : Dat Tryz.prog 117 true [.int .i64, .int .i64, .int .i64, .int .i64, .int .i64, .int .i64, .int .i64, .int .i64, .int .i64, .str, .list (.agg [.int .i64, .int .i64]), .list (.str)] := .struct Tryz.underlying117 (.cons (l := [.int .i64]) (m := [.int .i64, .int .i64, .int .i64, .int .i64, .int .i64, .int .i64, .int .i64, .int .i64, .str, .list (.agg [.int .i64, .int .i64]), .list (.str)]) D3 (by kernel_rfl) (.cons (l := [.int .i64]) (m := [.int .i64, .int .i64, .int .i64, .int .i64, .int .i64, .int .i64, .int .i64, .str, .list (.agg [.int .i64, .int .i64]), .list (.str)]) D3 (by kernel_rfl) (.cons (l := [.int .i64]) (m := [.int .i64, .int .i64, .int .i64, .int .i64, .int .i64, .int .i64, .str, .list (.agg [.int .i64, .int .i64]), .list (.str)]) D3 (by kernel_rfl) (.cons (l := [.int .i64]) (m := [.int .i64, .int .i64, .int .i64, .int .i64, .int .i64, .str, .list (.agg [.int .i64, .int .i64]), .list (.str)]) D3 (by kernel_rfl) (.cons (l := [.int .i64]) (m := [.int .i64, .int .i64, .int .i64, .int .i64, .str, .list (.agg [.int .i64, .int .i64]), .list (.str)]) D3 (by kernel_rfl) (.cons (l := [.int .i64]) (m := [.int .i64, .int .i64, .int .i64, .str, .list (.agg [.int .i64, .int .i64]), .list (.str)]) D3 (by kernel_rfl) (.cons (l := [.int .i64]) (m := [.int .i64, .int .i64, .str, .list (.agg [.int .i64, .int .i64]), .list (.str)]) D3 (by kernel_rfl) (.cons (l := [.int .i64]) (m := [.int .i64, .str, .list (.agg [.int .i64, .int .i64]), .list (.str)]) D3 (by kernel_rfl) (.cons (l := [.int .i64]) (m := [.str, .list (.agg [.int .i64, .int .i64]), .list (.str)]) D3 (by kernel_rfl) (.cons (l := [.str]) (m := [.list (.agg [.int .i64, .int .i64]), .list (.str)]) D9 (by kernel_rfl) (.cons (l := [.list (.agg [.int .i64, .int .i64])]) (m := [.list (.str)]) D116 (by kernel_rfl) (.cons (l := [.list (.str)]) (m := []) D22 (by kernel_rfl) .nil)))))))))))) (by kernel_rfl) lt117
theorem lt118 : 118 < Tryz.prog.types.size := of_decide_eq_true (by kernel_rfl)
theorem D118 : Dat Tryz.prog 118 true [.int .i64, .int .i64, .int .i64, .int .i64, .int .i64, .int .i64, .int .i64, .int .i64, .int .i64, .str, .list (.agg [.int .i64, .int .i64]), .list (.str)] := .struct Tryz.underlying118 (.cons (l := [.int .i64]) (m := [.int .i64, .int .i64, .int .i64, .int .i64, .int .i64, .int .i64, .int .i64, .int .i64, .str, .list (.agg [.int .i64, .int .i64]), .list (.str)]) D3 (by kernel_rfl) (.cons (l := [.int .i64]) (m := [.int .i64, .int .i64, .int .i64, .int .i64, .int .i64, .int .i64, .int .i64, .str, .list (.agg [.int .i64, .int .i64]), .list (.str)]) D3 (by kernel_rfl) (.cons (l := [.int .i64]) (m := [.int .i64, .int .i64, .int .i64, .int .i64, .int .i64, .int .i64, .str, .list (.agg [.int .i64, .int .i64]), .list (.str)]) D3 (by kernel_rfl) (.cons (l := [.int .i64]) (m := [.int .i64, .int .i64, .int .i64, .int .i64, .int .i64, .str, .list (.agg [.int .i64, .int .i64]), .list (.str)]) D3 (by kernel_rfl) (.cons (l := [.int .i64]) (m := [.int .i64, .int .i64, .int .i64, .int .i64, .str, .list (.agg [.int .i64, .int .i64]), .list (.str)]) D3 (by kernel_rfl) (.cons (l := [.int .i64]) (m := [.int .i64, .int .i64, .int .i64, .str, .list (.agg [.int .i64, .int .i64]), .list (.str)]) D3 (by kernel_rfl) (.cons (l := [.int .i64]) (m := [.int .i64, .int .i64, .str, .list (.agg [.int .i64, .int .i64]), .list (.str)]) D3 (by kernel_rfl) (.cons (l := [.int .i64]) (m := [.int .i64, .str, .list (.agg [.int .i64, .int .i64]), .list (.str)]) D3 (by kernel_rfl) (.cons (l := [.int .i64]) (m := [.str, .list (.agg [.int .i64, .int .i64]), .list (.str)]) D3 (by kernel_rfl) (.cons (l := [.str]) (m := [.list (.agg [.int .i64, .int .i64]), .list (.str)]) D9 (by kernel_rfl) (.cons (l := [.list (.agg [.int .i64, .int .i64])]) (m := [.list (.str)]) D116 (by kernel_rfl) (.cons (l := [.list (.str)]) (m := []) D22 (by kernel_rfl) .nil)))))))))))) (by kernel_rfl) lt118
theorem lt120 : 120 < Tryz.prog.types.size := of_decide_eq_true (by kernel_rfl)
theorem D120 : Dat Tryz.prog 120 true [.int .i64, .list (.int .i64), .bool, .str, .str] := .struct Tryz.underlying120 (.cons (l := [.int .i64]) (m := [.list (.int .i64), .bool, .str, .str]) D3 (by kernel_rfl) (.cons (l := [.list (.int .i64)]) (m := [.bool, .str, .str]) D103 (by kernel_rfl) (.cons (l := [.bool]) (m := [.str, .str]) D4 (by kernel_rfl) (.cons (l := [.str]) (m := [.str]) D9 (by kernel_rfl) (.cons (l := [.str]) (m := []) D9 (by kernel_rfl) .nil))))) (by kernel_rfl) lt120
theorem lt121 : 121 < Tryz.prog.types.size := of_decide_eq_true (by kernel_rfl)
theorem D121 : Dat Tryz.prog 121 true [.int .i64, .list (.int .i64), .bool, .str, .str] := .struct Tryz.underlying121 (.cons (l := [.int .i64]) (m := [.list (.int .i64), .bool, .str, .str]) D3 (by kernel_rfl) (.cons (l := [.list (.int .i64)]) (m := [.bool, .str, .str]) D103 (by kernel_rfl) (.cons (l := [.bool]) (m := [.str, .str]) D4 (by kernel_rfl) (.cons (l := [.str]) (m := [.str]) D9 (by kernel_rfl) (.cons (l := [.str]) (m := []) D9 (by kernel_rfl) .nil))))) (by kernel_rfl) lt121
theorem lt136 : 136 < Tryz.prog.types.size := of_decide_eq_true (by kernel_rfl)
theorem D136 : Dat Tryz.prog 136 true [.int .i64, .int .i64] := .struct Tryz.underlying136 (.cons (l := [.int .i64]) (m := [.int .i64]) D3 (by kernel_rfl) (.cons (l := [.int .i64]) (m := []) D3 (by kernel_rfl) .nil)) (by kernel_rfl) lt136
theorem lt142 : 142 < Tryz.prog.types.size := of_decide_eq_true (by kernel_rfl)
theorem D142 : Dat Tryz.prog 142 false [.int .u64] := .int Tryz.underlying142 lt142
theorem lt153 : 153 < Tryz.prog.types.size := of_decide_eq_true (by kernel_rfl)
theorem D153 : Dat Tryz.prog 153 true [.int .i64, .int .i64, .bool, .list (.int .i64), .str] := .struct Tryz.underlying153 (.cons (l := [.int .i64]) (m := [.int .i64, .bool, .list (.int .i64), .str]) D3 (by kernel_rfl) (.cons (l := [.int .i64]) (m := [.bool, .list (.int .i64), .str]) D3 (by kernel_rfl) (.cons (l := [.bool]) (m := [.list (.int .i64), .str]) D4 (by kernel_rfl) (.cons (l := [.list (.int .i64)]) (m := [.str]) D103 (by kernel_rfl) (.cons (l := [.str]) (m := []) D9 (by kernel_rfl) .nil))))) (by kernel_rfl) lt153
theorem lt144 : 144 < Tryz.prog.types.size := of_decide_eq_true (by kernel_rfl)
theorem D144 : Dat Tryz.prog 144 false [.list (.agg [.int .i64, .int .i64, .bool, .list (.int .i64), .str])] := .slice (e := 153) (g := true) (l := [.int .i64, .int .i64, .bool, .list (.int .i64), .str]) Tryz.underlying144 D153 (by kernel_rfl) (by decide) (of_decide_eq_true (by kernel_rfl)) lt144
theorem lt149 : 149 < Tryz.prog.types.size := of_decide_eq_true (by kernel_rfl)
theorem D149 : Dat Tryz.prog 149 true [.int .i64, .int .i64, .int .i64, .int .i64, .int .i64, .int .i64, .int .i64, .int .i64, .int .i64, .str, .list (.agg [.int .i64, .int .i64]), .list (.str)] := .struct Tryz.underlying149 (.cons (l := [.int .i64, .int .i64, .int .i64, .int .i64, .int .i64, .int .i64, .int .i64, .int .i64, .int .i64, .str, .list (.agg [.int .i64, .int .i64]), .list (.str)]) (m := []) D118 (by kernel_rfl) .nil) (by kernel_rfl) lt149
theorem lt150 : 150 < Tryz.prog.types.size := of_decide_eq_true (by kernel_rfl)
theorem D150 : Dat Tryz.prog 150 true [.int .i64, .int .i64, .int .i64, .int .i64, .int .i64, .int .i64, .int .i64, .int .i64, .int .i64, .str, .list (.agg [.int .i64, .int .i64]), .list (.str)] := .struct Tryz.underlying150 (.cons (l := [.int .i64, .int .i64, .int .i64, .int .i64, .int .i64, .int .i64, .int .i64, .int .i64, .int .i64, .str, .list (.agg [.int .i64, .int .i64]), .list (.str)]) (m := []) D118 (by kernel_rfl) .nil) (by kernel_rfl) lt150
theorem lt152 : 152 < Tryz.prog.types.size := of_decide_eq_true (by kernel_rfl)
theorem D152 : Dat Tryz.prog 152 true [.int .i64, .int .i64, .bool, .list (.int .i64), .str] := .struct Tryz.underlying152 (.cons (l := [.int .i64]) (m := [.int .i64, .bool, .list (.int .i64), .str]) D3 (by kernel_rfl) (.cons (l := [.int .i64]) (m := [.bool, .list (.int .i64), .str]) D3 (by kernel_rfl) (.cons (l := [.bool]) (m := [.list (.int .i64), .str]) D4 (by kernel_rfl) (.cons (l := [.list (.int .i64)]) (m := [.str]) D103 (by kernel_rfl) (.cons (l := [.str]) (m := []) D9 (by kernel_rfl) .nil))))) (by kernel_rfl) lt152
theorem lt171 : 171 < Tryz.prog.types.size := of_decide_eq_true (by kernel_rfl)
theorem D171 : Dat Tryz.prog 171 false [.int .u32] := .int Tryz.underlying171 lt171
theorem lt180 : 180 < Tryz.prog.types.size := of_decide_eq_true (by kernel_rfl)
theorem D180 : Dat Tryz.prog 180 true [.int .i64, .list (.int .i64), .bool, .str, .str, .list (.agg [.int .i64, .int .i64, .bool, .list (.int .i64), .str])] := .struct Tryz.underlying180 (.cons (l := [.int .i64, .list (.int .i64), .bool, .str, .str]) (m := [.list (.agg [.int .i64, .int .i64, .bool, .list (.int .i64), .str])]) D121 (by kernel_rfl) (.cons (l := [.list (.agg [.int .i64, .int .i64, .bool, .list (.int .i64), .str])]) (m := []) D144 (by kernel_rfl) .nil)) (by kernel_rfl) lt180
theorem lt181 : 181 < Tryz.prog.types.size := of_decide_eq_true (by kernel_rfl)
theorem D181 : Dat Tryz.prog 181 true [.int .i64, .list (.int .i64), .bool, .str, .str, .list (.agg [.int .i64, .int .i64, .bool, .list (.int .i64), .str])] := .struct Tryz.underlying181 (.cons (l := [.int .i64, .list (.int .i64), .bool, .str, .str]) (m := [.list (.agg [.int .i64, .int .i64, .bool, .list (.int .i64), .str])]) D121 (by kernel_rfl) (.cons (l := [.list (.agg [.int .i64, .int .i64, .bool, .list (.int .i64), .str])]) (m := []) D144 (by kernel_rfl) .nil)) (by kernel_rfl) lt181
theorem lt188 : 188 < Tryz.prog.types.size := of_decide_eq_true (by kernel_rfl)
theorem D188 : Dat Tryz.prog 188 false [.list (.int .u32)] := .slice (e := 171) (g := false) (l := [.int .u32]) Tryz.underlying188 D171 (by kernel_rfl) (by decide) (of_decide_eq_true (by kernel_rfl)) lt188
theorem lt192 : 192 < Tryz.prog.types.size := of_decide_eq_true (by kernel_rfl)
theorem D192 : Dat Tryz.prog 192 false [.int .i64] := .int Tryz.underlying192 lt192
theorem lt203 : 203 < Tryz.prog.types.size := of_decide_eq_true (by kernel_rfl)
theorem D203 : Dat Tryz.prog 203 false [.int .u64] := .int Tryz.underlying203 lt203
theorem lt229 : 229 < Tryz.prog.types.size := of_decide_eq_true (by kernel_rfl)
theorem D229 : Dat Tryz.prog 229 true [.int .u8, .int .u8] := .struct Tryz.underlying229 (.cons (l := [.int .u8]) (m := [.int .u8]) D5 (by kernel_rfl) (.cons (l := [.int .u8]) (m := []) D5 (by kernel_rfl) .nil)) (by kernel_rfl) lt229
theorem lt230 : 230 < Tryz.prog.types.size := of_decide_eq_true (by kernel_rfl)
theorem D230 : Dat Tryz.prog 230 true [.int .u8, .int .u8] := .struct Tryz.underlying230 (.cons (l := [.int .u8]) (m := [.int .u8]) D5 (by kernel_rfl) (.cons (l := [.int .u8]) (m := []) D5 (by kernel_rfl) .nil)) (by kernel_rfl) lt230
theorem lt235 : 235 < Tryz.prog.types.size := of_decide_eq_true (by kernel_rfl)
theorem D235 : Dat Tryz.prog 235 true [.str] := .struct Tryz.underlying235 (.cons (l := [.str]) (m := []) D9 (by kernel_rfl) .nil) (by kernel_rfl) lt235
theorem lt236 : 236 < Tryz.prog.types.size := of_decide_eq_true (by kernel_rfl)
theorem D236 : Dat Tryz.prog 236 true [.str] := .struct Tryz.underlying236 (.cons (l := [.str]) (m := []) D9 (by kernel_rfl) .nil) (by kernel_rfl) lt236
theorem lt245 : 245 < Tryz.prog.types.size := of_decide_eq_true (by kernel_rfl)
theorem D245 : Dat Tryz.prog 245 false [.int .u8] := .int Tryz.underlying245 lt245
theorem lt246 : 246 < Tryz.prog.types.size := of_decide_eq_true (by kernel_rfl)
theorem D246 : Dat Tryz.prog 246 false [.int .u8] := .int Tryz.underlying246 lt246
theorem lt248 : 248 < Tryz.prog.types.size := of_decide_eq_true (by kernel_rfl)
theorem D248 : Dat Tryz.prog 248 false [.int .i32] := .int Tryz.underlying248 lt248
theorem lt249 : 249 < Tryz.prog.types.size := of_decide_eq_true (by kernel_rfl)
theorem D249 : Dat Tryz.prog 249 false [.int .i32] := .int Tryz.underlying249 lt249

theorem dat_lt : ∀ t g l, Dat Tryz.prog t g l → t < Tryz.prog.types.size := fun _ _ _ h => h.lt
theorem laid_all : laidOutB Tryz.prog = true := by kernel_rfl
theorem rowed_all : mapsRowed Tryz.prog = true := by kernel_rfl
theorem slices_all : ((List.range Tryz.prog.types.size).all fun t => match Tryz.prog.underlying t with | some (.slice e) => decide (0 < Tryz.prog.cellsOf e) | _ => true) = true := by kernel_rfl
theorem own_knob : ownKnob Tryz.prog.godebug = none := by kernel_rfl

end Go.Proofs.YtolgjekokdimoaaGreatDoor
end

section
namespace Go.Proofs.YtolgjekokdimoaaGreatDoor
variable [LaidG]
open Go.ChangeShapes Go.WideShapes Go.ChangeAt Go.RowKit
set_option linter.unusedVariables false
set_option maxRecDepth 100000
section
variable {H : Type} {enc : TypeId × Value → H} {P : Program} {W W' : World}

theorem laid_mem {name : String} {k : IntKind} {zs : List Int} {g t e n : Nat} (hg : P.globalNamed name = some g) (hty : (P.globals[g]?).map (·.type) = some t) (ht : P.underlying t = some (.array n e)) (he : P.underlying e = some (.int k)) (hce : P.cellsOf e = 1) (hct : P.cellsOf t = n) :
    ∀ {laid : List (String × DataW Unit)} {ps : List MemPlace}, DataW.LaidVars P W laid ps → (name, Lib.tabData k zs) ∈ laid →
      ∃ cs, W.var? P name = some cs ∧ cs.toList = (zs.map fun z => Value.int k z) ∧ ∀ x ∈ MemPlace.row ⟨g, 0, none⟩ cs.size, x ∈ ps
  | [], ps, h, hm => by simp at hm
  | (m, d) :: r, ps, h, hm => by
    obtain ⟨g', t', cs, fuel, p, q, hg', ht', hvar, hd, hr, rfl⟩ := h
    rcases List.mem_cons.1 hm with hm | hm
    · obtain ⟨rfl, rfl⟩ := Prod.mk.inj hm
      obtain rfl := Option.some.inj (hg.symm.trans hg')
      obtain rfl := Option.some.inj (hty.symm.trans ht')
      exact ⟨cs, hvar, Lib.cells_of_tab ht he hce hct hd, fun x hx => by simp [hx]⟩
    · obtain ⟨cs', q1, q2, q3⟩ := laid_mem hg hty ht he hce hct hr hm
      exact ⟨cs', q1, q2, fun x hx => by simp [q3 x hx]⟩

theorem lv_intsZ {k : IntKind} : ∀ {zs : List Int}, (∀ z ∈ zs, inR k z) → Lv W (flatT (.int k) zs.length) (flatP (zs.map (PV.int k))) (zs.map fun z => Value.int k z) []
  | [], _ => .nil
  | z :: zs, h => .int (h z (by simp)) (lv_intsZ (zs := zs) fun x hx => h x (by simp [hx]))

theorem gl_one {name : String} {k : IntKind} {z0 : Int} {zs : List Int} {g t e n : Nat} {laid : List (String × DataW Unit)} (h : laidMet P laid W) (hm : (name, Lib.tabData k (z0 :: zs)) ∈ laid) (hg : P.globalNamed name = some g) (hty : (P.globals[g]?).map (·.type) = some t) (ht : P.underlying t = some (.array n e)) (he : P.underlying e = some (.int k)) (hce : P.cellsOf e = 1) (hct : P.cellsOf t = n)
    (hr : ∀ z ∈ z0 :: zs, inR k z) :
    g ∉ ([] : List Nat) ∧ ∃ c t, W.heap[g]? = some (.cells c t (0, 0)) ∧ flatB (.int k) = true ∧ (∀ e ∈ (z0 :: zs).map (PV.int k), Shp (.int k) e) ∧ Lv W (flatT (.int k) ((z0 :: zs).map (PV.int k)).length) (flatP ((z0 :: zs).map (PV.int k))) c.toList [] := by
  obtain ⟨ps, hL, _, hz⟩ := h
  obtain ⟨cs, q1, q2, q3⟩ := laid_mem hg hty ht he hce hct hL hm
  have hpos : 0 < cs.size := by rw [← Array.length_toList, q2]; simp
  obtain ⟨⟨c, t', hc⟩, _⟩ := hz g 0 (q3 _ (by simp [MemPlace.row]; exact hpos))
  have e : c = cs := by
    unfold World.var? at q1
    rw [hg] at q1
    have q1 : (match W.heap[g]? with | some (.cells cs _ _) => some cs | _ => none) = some cs := q1
    rw [hc] at q1
    exact Option.some.inj q1
  subst e
  refine ⟨by simp, c, t', hc, rfl, fun e he => ?_, ?_⟩
  · obtain ⟨z, hz', rfl⟩ := List.mem_map.1 he
    intro qs h; cases h
  · rw [q2, List.length_map]; exact lv_intsZ hr

theorem lt_of_name {ns : List String} (hall : (ns.all fun n => match (P.globalNamed n).bind fun g => (P.globals[g]?).map (·.type) with | some t => decide (t < P.types.size) | none => true) = true) {n : String} {g t : Nat} (hn : n ∈ ns) (hg : P.globalNamed n = some g) (ht : (P.globals[g]?).map (·.type) = some t) : t < P.types.size := by
  have h := List.all_eq_true.1 hall n hn
  have e : ((P.globalNamed n).bind fun g => (P.globals[g]?).map (·.type)) = some t := by rw [hg]; exact ht
  rw [e] at h
  exact of_decide_eq_true h
theorem var_fr (h : Fr W [] W') {n : String} {cs : Array Value} (hv : W.var? P n = some cs) : W'.var? P n = some cs := by
  unfold World.var? at hv ⊢
  cases hg : P.globalNamed n with
  | none => rw [hg] at hv; cases hv
  | some g =>
    rw [hg] at hv
    show (match W'.heap[g]? with | some (.cells cs _ _) => some cs | _ => none) = _
    have hv : (match W.heap[g]? with | some (.cells cs _ _) => some cs | _ => none) = some cs := hv
    cases hb : W.heap[g]? with
    | none => rw [hb] at hv; cases hv
    | some o =>
      rw [h.block g (Array.getElem?_eq_some_iff.1 hb).1 (by simp)]
      exact hv

theorem weights_pre {y : Nat} : ∀ {ts us : List TypeId} {ds gs : List (DataW H)}, y ∈ DataW.weightsEach P ts ds → y ∈ DataW.weightsEach P (ts ++ us) (ds ++ gs)
  | [], us, ds, gs, h => by cases ds <;> simp [DataW.weightsEach] at h
  | t :: ts, us, [], gs, h => by simp [DataW.weightsEach] at h
  | t :: ts, us, d :: ds, gs, h => by
    simp only [List.cons_append, DataW.weightsEach, List.mem_append] at h ⊢
    exact h.imp id weights_pre

theorem trodVars_len {sp : Nat → Bool} : ∀ {ns : List String} {gs : List (DataW H)} {ps : List MemPlace}, DataW.TrodVars enc P W sp ns gs ps → gs.length = ns.length
  | [], [], _, _ => rfl
  | [], _ :: _, _, h => h.elim
  | _ :: _, [], _, h => h.elim
  | n :: ns, d :: gs, ps, ⟨g, t, cs, fuel, p, q, _, _, _, _, h, _⟩ => by simp [trodVars_len h]

theorem trodVars_fr (K : Kids P (· < P.types.size)) (hsl : ((List.range P.types.size).all fun t => match P.underlying t with | some (.slice e) => decide (0 < P.cellsOf e) | _ => true) = true) (h : Fr W [] W') :
    ∀ {ns : List String} {gs : List (DataW H)} {ps : List MemPlace}, (∀ n ∈ ns, ∀ g t, P.globalNamed n = some g → (P.globals[g]?).map (·.type) = some t → t < P.types.size) → DataW.TrodVars enc P W (fun _ => true) ns gs ps → (∀ x ∈ ps, x.block < W.heap.size) → DataW.TrodVars enc P W' (fun b => decide (b < W.heap.size)) ns gs ps
  | [], [], _, _, h0, _ => h0
  | [], _ :: _, _, _, h0, _ => h0.elim
  | _ :: _, [], _, _, h0, _ => h0.elim
  | n :: ns, d :: gs, ps, hn, ⟨g, t, cs, fuel, p, q, h1, h2, h3, h4, h5, e⟩, hl => by
    subst e
    refine ⟨g, t, cs, fuel, p, q, h1, h2, var_fr h h3, ?_, trodVars_fr K hsl h (fun m hm => hn m (by simp [hm])) h5 fun x hx => hl x (by simp [hx]), rfl⟩
    have h6 := DataW.trod_respare (spare' := fun b => decide (b < W.heap.size)) K (fun t e ht => slices_full_of P hsl t e ht) fuel t cs.toList _ (hn n (by simp) g t h1 h2) h4 (fun x hx => by simpa using hl x (by simp [hx]))
    exact DataW.trod_carry fuel t _ _ h6 fun x hx => sameAt_fr h (hl x (by simp [hx]))

/-- A law's contract is its row's, where the row lists package variables. -/
theorem law_postV {fn : Func} {f : FuncId} {s : ChangeSpec} {c : FSpec} {tb : Nat} {base : Nat} {args : Array Value} {ds gs : List (DataW H)} {before : List MemPlace} (hl : laidOutB P = true) (hmr : mapsRowed P = true)
    (hsl : ((List.range P.types.size).all fun t => match P.underlying t with | some (.slice e) => decide (0 < P.cellsOf e) | _ => true) = true)
    (hdt : ∀ t g l, Dat P t g l → t < P.types.size) (hm : Meets P f c) (hG : GlOk W []) (ha : ArgTys P fn.params.toList c.args) (hpar : ∀ t ∈ fn.params.toList, t < P.types.size) (hb : P.underlying tb = some .bool) (hres : fn.resultTypes = #[tb])
    (hv : ∀ n ∈ s.vars, ∀ g t, P.globalNamed n = some g → (P.globals[g]?).map (·.type) = some t → t < P.types.size)
    (hfn : ∀ H ds gs, ds.length = fn.params.size → gs.length = s.vars.length → (s.fn H (ds ++ gs)).results = [.lit (.bool true)] ∧ (s.fn H (ds ++ gs)).args = ds ∧ (s.fn H (ds ++ gs)).vars = gs)
    (hc : c.ret = [.bool] ∧ c.fresh = true ∧ (∀ ps, c.pre ps) ∧ ∀ ps, c.res ps = [.bool true]) (hrd : allRd c.args = true)
    (hval : ∀ (j : Nat) t v, fn.params[j]? = some t → args[j]? = some v → Value.okWide P W .any base t v)
    (hW : DataW.Whole enc P fn.params.toList s.vars false W args.toList ds gs before)
    (hwt : (DataW.weightsEach P (fn.params.toList ++ s.plain.varTypes P) (ds ++ gs)).all (· ≤ reachBytes) = true) :
    Calls P f args W fun e W' => ∃ v, e = .returned v ∧ s.post enc P fn false true false false W args v W' := by
  have hW' := hW
  have hlt := hW.lt
  obtain ⟨p, q, hA, hV, rfl, hfz, _⟩ := hW
  have hdl : ∀ {ts : List TypeId} {vs : List Value} {ds : List (DataW H)} {ps : List MemPlace}, DataW.TrodAll enc P W 0 (fun _ => true) true ts vs ds ps → ds.length = ts.length := by
    intro ts
    induction ts with
    | nil => intro vs ds ps h; cases vs <;> cases ds <;> simp [DataW.TrodAll] at h ⊢
    | cons t ts ih => intro vs ds ps h; cases vs <;> cases ds <;> simp [DataW.TrodAll] at h ⊢; obtain ⟨_, _, _, h2, _⟩ := h; exact ih h2
  have hlen := hdl hA
  have K := kids_rows hl hmr
  obtain ⟨qs, fs, hargs⟩ := args_lv K hdt ha (fun j t v hj hv' => hval j t v (by simpa using hj) (by simpa using hv')) hA (fun y hy => by simpa using List.all_eq_true.1 hwt y (weights_pre hy))
  obtain ⟨c1, c2, c3, c4⟩ := hc
  obtain ⟨r1, r2, r3⟩ := hfn H ds gs (by simpa using hlen) (trodVars_len hV)
  have hcall := hm W qs _ fs fs [] hargs (by simp) (by simp) (c3 qs) hG
  simp only [Array.toArray_toList] at hcall
  refine hcall.mono fun e W' he => ?_
  obtain ⟨rvs, rfl, hFr, hcase⟩ := he
  have hret : ∃ fr, RetVs W' c.ret (c.res qs) rvs fr := by
    rcases hcase with ⟨_, fr, mo, h, _⟩ | ⟨h, _⟩
    · exact ⟨fr, h⟩
    · rw [c2] at h; cases h
  obtain ⟨fr, hret⟩ := hret
  rw [c1, c4] at hret
  have hrv : rvs = [.bool true] := by
    cases hret with
    | cons h1 h2 =>
      cases h2
      obtain ⟨fs', h1, _⟩ := h1
      cases h1 with
      | bool h => cases h; rfl
  subst hrv
  have hsame : ∀ sp : Nat → Bool, (∀ x ∈ p, sp x.block = true) → DataW.TrodAll enc P W' 0 sp true fn.params.toList args.toList ds p := fun sp hsp =>
    trodAll_fr hFr (hA.respare (T := (· < P.types.size)) K (fun t e ht => slices_full_of P hsl t e ht) hpar hsp) (fun x hx => hlt x (by simp [hx]))
  refine ⟨_, rfl, ds, gs, p ++ q, [], p, q, hW', ?_, ?_, ?_, keptBut_fr hFr _, fun h => by cases h⟩
  · simp only [r1, hres]
    exact trodAll_cons_mk (shut_bool hb _) trodAll_mk0
  · simp only [r2]
    exact hsame _ fun x hx => by simpa using hlt x (by simp [hx])
  · simp only [r3]
    exact trodVars_fr K hsl hFr hv hV fun x hx => hlt x (by simp [hx])

end
end Go.Proofs.YtolgjekokdimoaaGreatDoor
end

section
namespace Go.Proofs.YtolgjekokdimoaaGreatDoor
variable [LaidG]
open Go.ChangeShapes Go.WideShapes Go.ChangeAt Go.RowKit
set_option linter.unusedVariables false
set_option maxRecDepth 100000
section
variable {H : Type} {enc : TypeId × Value → H} {P : Program} {W W' : World}

theorem iface_of {w : World} {sp : Nat → Bool} {fuel t : Nat} {cs : List Value} {ms : Array (String × TypeId)} {s : String} {d : DataW Unit} {p : List MemPlace} (ht : P.underlying t = some (.interface ms))
    (h : DataW.trod (fun _ => ()) P w 0 sp false fuel t cs = some (.iface s d, p)) : ∃ u v, cs = [.iface u v] := by
  cases fuel with
  | zero => simp [DataW.trod] at h
  | succ fuel =>
    match cs with
    | [] => simp [DataW.trod, ht] at h
    | [a] => cases a <;> first | exact ⟨_, _, rfl⟩ | (simp [DataW.trod, ht] at h)
    | a :: b :: r => simp [DataW.trod, ht] at h
theorem laid_ifc {name s : String} {d : DataW Unit} {g t : Nat} {ms : Array (String × TypeId)} (hg : P.globalNamed name = some g) (hty : (P.globals[g]?).map (·.type) = some t) (ht : P.underlying t = some (.interface ms)) :
    ∀ {laid : List (String × DataW Unit)} {ps : List MemPlace}, DataW.LaidVars P W laid ps → (name, .iface s d) ∈ laid →
      ∃ u v, W.var? P name = some #[.iface u v] ∧ ∀ x ∈ MemPlace.row ⟨g, 0, none⟩ 1, x ∈ ps
  | [], ps, h, hm => by simp at hm
  | (m, d') :: r, ps, h, hm => by
    obtain ⟨g', t', cs, fuel, p, q, hg', ht', hvar, hd, hr, rfl⟩ := h
    rcases List.mem_cons.1 hm with hm | hm
    · obtain ⟨rfl, rfl⟩ := Prod.mk.inj hm
      obtain rfl := Option.some.inj (hg.symm.trans hg')
      obtain rfl := Option.some.inj (hty.symm.trans ht')
      obtain ⟨u, v, e⟩ := iface_of ht hd
      have e' : cs = #[.iface u v] := by apply Array.toList_inj.1; rw [e]
      subst e'
      exact ⟨u, v, hvar, fun x hx => by simp at hx ⊢; simp [hx]⟩
    · obtain ⟨u, v, q1, q2⟩ := laid_ifc hg hty ht hr hm
      exact ⟨u, v, q1, fun x hx => by simp [q2 x hx]⟩
theorem gl_ifc {name : String} {dat : DataW Unit} {g t : Nat} {ms : Array (String × TypeId)} {laid : List (String × DataW Unit)} (h : laidMet P laid W) (hdat : ∃ s d, dat = .iface s d) (hm : (name, dat) ∈ laid) (hg : P.globalNamed name = some g) (hty : (P.globals[g]?).map (·.type) = some t) (ht : P.underlying t = some (.interface ms)) :
    g ∉ ([] : List Nat) ∧ ∃ v t, W.heap[g]? = some (.cells #[v] t (0, 0)) ∧ GlV true v := by
  obtain ⟨s, d, rfl⟩ := hdat
  obtain ⟨ps, hL, _, hz⟩ := h
  obtain ⟨u, v, q1, q2⟩ := laid_ifc hg hty ht hL hm
  obtain ⟨⟨c, t', hc⟩, _⟩ := hz g 0 (q2 _ (by simp [MemPlace.row]))
  have e : c = #[.iface u v] := by
    unfold World.var? at q1
    rw [hg] at q1
    have q1 : (match W.heap[g]? with | some (.cells cs _ _) => some cs | _ => none) = some #[.iface u v] := q1
    rw [hc] at q1
    exact Option.some.inj q1
  subst e
  exact ⟨by simp, _, t', hc, .inr ⟨u, v, rfl⟩⟩
theorem gl_int {g t : Nat} {zero : Array Value} (h : W.ShapedOpen P) (hg : g < P.globals.size) (h0 : ((begin P (fun _ _ => 0) default).world.heap[g]?).bind Obj.row? = some (zero, t)) (hz : zero.size = 1)
    (hb : P.buildable t = true) (hc : P.cellTypes P.depth t = some [t]) (hu : P.underlying t = some (.int .i64)) : g ∉ ([] : List Nat) ∧ ∃ v t, W.heap[g]? = some (.cells #[v] t (0, 0)) ∧ GlV false v := by
  obtain ⟨m, hm⟩ := cell_of_shapedOpen_int h hg h0 hz hb hc hu
  obtain ⟨cs, hh, hs, _⟩ := h.1 g zero t hg h0
  rcases cs with ⟨l⟩
  have hl : l.length = 1 := by simpa [hz] using hs
  obtain ⟨x, rfl⟩ := List.length_eq_one_iff.1 hl
  have hx : x = .int .i64 m := by simpa [World.cell?, hh] using hm
  subst hx
  exact ⟨by simp, _, t, hh, ⟨m, rfl⟩⟩

/-- The wrap, with the world's shape and a fact of one's own. -/
theorem returns_shaped {a : Assume} {C : Checked} {os : Os} {f : FuncId} {fn : Func} {s : ChangeSpec} {conds : List PathCond} {apart fresh handsOn again : Bool} {X : World → Array Value → Prop}
    (hX : ∀ (w w' : World) (args : Array Value), w.heap = w'.heap → X w args → X w' args)
    (own : ownKnob C.prog.godebug = none) (started : os.Started) (noInit : C.prog.inits.idxOf? f = none) (hfn : C.prog.funcs[f]? = some fn)
    (witness : ∃ (w : World) (tape : Tape) (i : Input), w.os = os ∧ (w.forCall tape i).Shaped C.prog ∧ i.vars = [] ∧ Input.okWide C.prog (w.forCall tape i) .any w.heap.size f i ∧
      ((s.pre enc C.prog fn conds apart (w.forCall tape i).memory i.args ∧ X (w.forCall tape i).memory i.args) ∧ sizedMet enc C.prog fn (OpenSpec.ofChange s) apart (w.forCall tape i).memory i.args) ∧ a.holds C.prog (lone (Frame.enter C.prog f i.args .normal) [] (w.forCall tape i)))
    (contract : ∀ (W : World) (base : Nat) (args : Array Value) (ds gs : List (DataW H)) (before : List MemPlace),
      (∀ (j : Nat) t v, fn.params[j]? = some t → args[j]? = some v → Value.okWide C.prog W .any base t v) →
      DataW.Whole enc C.prog fn.params.toList s.vars apart W args.toList ds gs before →
      conds.all (PathCond.test C.prog ⟨fn.params.toList, ds, s.plain.varTypes C.prog, gs⟩) = true →
      (DataW.weightsEach C.prog (fn.params.toList ++ s.plain.varTypes C.prog) (ds ++ gs)).all (· ≤ reachBytes) = true → X W args → W.ShapedOpen C.prog →
      Calls C.prog f args W fun e W' => ∃ v, e = .returned v ∧ s.post enc C.prog fn apart fresh handsOn again W args v W') :
    ReturnsInHanded a C os f .any (fun w args => (s.pre enc C.prog fn conds apart w args ∧ X w args) ∧ sizedMet enc C.prog fn (OpenSpec.ofChange s) apart w args) (s.post enc C.prog fn apart fresh handsOn again) := by
  refine returnsInHanded_of_calls own started noInit witness ?_
  intro w tape i _ hsh _ hok hpre _
  obtain ⟨_, _, _, fn', hfn', _, _, _, _, hval⟩ := hok
  obtain rfl : fn' = fn := Option.some.inj (hfn'.symm.trans hfn)
  obtain ⟨⟨⟨ds, gs, before, hw, hc⟩, hx⟩, hz⟩ := hpre
  refine (contract (w.forCall tape i) w.heap.size i.args ds gs before hval (DataW.Whole.of_heap (w' := w.forCall tape i) (by rfl) hw) hc (hz.weights hw) (hX _ _ _ (by rfl) hx) hsh).mono fun e W' he => ?_
  obtain ⟨v, rfl, hp⟩ := he
  exact ChangeSpec.post_blind hp
end
end Go.Proofs.YtolgjekokdimoaaGreatDoor
end

