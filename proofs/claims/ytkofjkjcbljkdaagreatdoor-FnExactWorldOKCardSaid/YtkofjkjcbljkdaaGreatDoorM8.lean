/-
  Part 8 of the proof of FnExactWorldOK: a verification-condition generator over the program and the contracts of its functions, in the order of their use.
  Conditions: none.
-/
import Derived.Test.YtkofjkjcbljkdaaGreatDoorM7
set_option linter.unusedVariables false
set_option linter.unusedSimpArgs false
set_option linter.unusedSectionVars false

section
namespace Go.Proofs.YtkofjkjcbljkdaaGreatDoor
variable [LaidG]
set_option maxRecDepth 100000
set_option linter.unusedSimpArgs false
theorem recGo_step {s : ST} {es : List PV} {i : Nat} (h : i < es.length) : recGo s (es.drop i) = if (appI s (nth es i).S).2 = true then recGo (appI s (nth es i).S).1 (es.drop (i + 1)) else (s, false) := by
  rw [drop_nth h, recGo]
theorem appI_ok {s : ST} {r : List UInt8} (h : (appI s r).2 = true) : (appI s r).1.ok = true := by
  unfold appI at h ⊢
  cases hc : appC s r with
  | none => rw [hc] at h; cases h
  | some o => rw [hc] at h; exact h
theorem rcv_a {b : List UInt8} (h : (frmR b).2.2 = 8) : rcvR b = (ST.no, ([], 0), 8) := by rw [rcvR, if_pos h]
theorem rcv_b {b : List UInt8} (h : ¬ (frmR b).2.2 = 8) (h1 : (recGo ST.one (frmR b).1).2 = false) : rcvR b = (ST.no, ([], 0), 3) := by rw [rcvR, if_neg h, if_neg (by simp [h1])]
theorem rcv_c {b : List UInt8} {s : ST} (h : ¬ (frmR b).2.2 = 8) (h1 : recGo ST.one (frmR b).1 = (s, true)) : rcvR b = (s, (b.take (frmR b).2.1, ((frmR b).2.1 : Int)), 0) := by rw [rcvR, if_neg h, h1, if_pos rfl]
def c_recovered : FSpec := ⟨[(.rd, .agg [.str, .int .i64])], [.agg [.int .i64, .int .i64, .list (.agg [.int .i64, .str])], .agg [.str, .int .i64], .int .i64], true, fun ps => (nth (nth ps 0).A 0).S.length ≤ 900000,
  fun ps => [.agg [.int .i64 (rcvR (nth (nth ps 0).A 0).S).1.t, .int .i64 (rcvR (nth (nth ps 0).A 0).S).1.v, .list (rcvR (nth (nth ps 0).A 0).S).1.log], .agg [.str (rcvR (nth (nth ps 0).A 0).S).2.1.1, .int .i64 (rcvR (nth (nth ps 0).A 0).S).2.1.2], .int .i64 (rcvR (nth (nth ps 0).A 0).S).2.2], fun _ => []⟩
theorem k_recovered : FnOk Tryz.prog 158 c_recovered := by
  refine fn_mk [0, 1, 2, 3, 4, 5, 6, 7, 8, 10, 11, 12, 25, 26, 27] [.cell 2 146, .cell 3 144, .tmp 4] (env_cons (cs := []) k_applied (env_cons (cs := []) k_readFrames (env_nil (tyTab_ok [])))) mixed Tryz.func158 rfl (by decide) rfl (by decide) rfl ?_
  intro ps hT hpre W hW
  simp only [c_recovered, TyA, Ty, Tys] at hT hpre
  obtain ⟨_, _, rfl, ⟨_, rfl, _, _, rfl, ⟨b, rfl, hb⟩, _, _, rfl, ⟨sure, rfl, hsure⟩, rfl⟩, rfl⟩ := hT
  simp only [nth_zero, nth_succ, pv_A, pv_S] at hpre
  have hfl := frmGo_le b.length b
  have hfl : (frmR b).2.1 ≤ b.length ∧ (frmR b).1.length ≤ (frmR b).2.1 := hfl
  refine hW.vc [(13, [7, 8], .take 0 <| .take 1 <| .take 3 <| .take 5 <| .tak2 2 <| .take 4 <| .tak2 6 <| .alt 7 (.alt 8 (.alt 9 (.done) .stop) .stop) .stop)] _ _ ?_
  simp [-List.getD_eq_getElem?_getD, c_recovered, c_readFrames, c_applied]
  refine ⟨hpre, fun h => by rw [rcv_a h]; simp [ST.no], fun h _ => ?_⟩
  refine hW.loopS _ _ _ [.bx 8 [.int .i64, .int .i64, .list (.agg [.int .i64, .str])], .sl 27 .dp (.int .i64)] (fun ys => ∃ (s : ST) (i : Nat), ys = [.agg [.int .i64 s.t, .int .i64 s.v, .list s.log], .int .i64 i] ∧ i ≤ (frmR b).1.length ∧ s.ok = true ∧ recGo ST.one (frmR b).1 = recGo s ((frmR b).1.drop i)) (fun ys => (frmR b).1.length - (nth ys 1).I.toNat) ?_ ?_
  · simp [-List.getD_eq_getElem?_getD, c_recovered, c_readFrames, c_applied]
    exact ⟨ST.one, 0, ⟨⟨rfl, rfl, rfl⟩, rfl⟩, by omega, by decide, rfl⟩
  · rintro ys ⟨s, i, rfl, g1, g2, g3⟩
    have hs := (ST.facts g2).2.2.2
    refine hW.vc [(13, [7, 8], .take 0 <| .take 1 <| .take 3 <| .take 5 <| .tak2 2 <| .take 4 <| .tak2 6 <| .alt 7 (.alt 8 (.alt 9 (.done) .stop) .stop) .stop)] _ _ ?_
    simp [-List.getD_eq_getElem?_getD, c_recovered, c_readFrames, c_applied, staOf]
    have e : (⟨s.t, s.v, s.log⟩ : ST) = s := rfl
    rw [e]
    refine ⟨fun h1 => ⟨h1, fun _ => ⟨by omega, fun h2 => ?_, fun h2 => ?_⟩⟩, fun h1 => ?_⟩
    · rw [recGo_step h1, if_neg (by simp [h2])] at g3
      rw [rcv_b h (by rw [g3])]
      simp [ST.no]
    · rw [recGo_step h1, if_pos h2] at g3
      rw [wrap64 (by omega)]
      exact ⟨⟨_, i + 1, ⟨⟨rfl, rfl, rfl⟩, rfl⟩, by omega, appI_ok h2, g3⟩, by omega⟩
    · rw [List.drop_eq_nil_of_le h1] at g3
      rw [rcv_c h g3]
      exact ⟨by decide +kernel, hfl.1, ⟨rfl, rfl, rfl⟩, ⟨rfl, rfl⟩, rfl⟩
theorem rcs_a {b : List UInt8} {sure : Int} (h : (frmR b).2.2 = 8) : rcvS b sure = (ST.one, (b, sure), 8) := by rw [rcvS, if_pos h]
theorem rcs_b {b : List UInt8} {sure : Int} {s : ST} (h : ¬ (frmR b).2.2 = 8) (h1 : recGo ST.one (frmR b).1 = (s, false)) : rcvS b sure = (s, (b, sure), 3) := by rw [rcvS, if_neg h, h1, if_neg (by simp)]
theorem rcs_c {b : List UInt8} {sure : Int} {s : ST} (h : ¬ (frmR b).2.2 = 8) (h1 : recGo ST.one (frmR b).1 = (s, true)) : rcvS b sure = (s, (b.take (frmR b).2.1, ((frmR b).2.1 : Int)), 0) := by rw [rcvS, if_neg h, h1, if_pos rfl]
def c_l07Recover : FSpec := ⟨[(.rd, .agg [.str, .int .i64])], [.agg [.int .i64, .int .i64, .list (.agg [.int .i64, .str])], .agg [.str, .int .i64], .int .i64], false, fun ps => (nth (nth ps 0).A 0).S.length ≤ 900000,
  fun ps => [.agg [.int .i64 (rcvS (nth (nth ps 0).A 0).S (nth (nth ps 0).A 1).I).1.t, .int .i64 (rcvS (nth (nth ps 0).A 0).S (nth (nth ps 0).A 1).I).1.v, .list (rcvS (nth (nth ps 0).A 0).S (nth (nth ps 0).A 1).I).1.log], .agg [.str (rcvS (nth (nth ps 0).A 0).S (nth (nth ps 0).A 1).I).2.1.1, .int .i64 (rcvS (nth (nth ps 0).A 0).S (nth (nth ps 0).A 1).I).2.1.2], .int .i64 (rcvS (nth (nth ps 0).A 0).S (nth (nth ps 0).A 1).I).2.2], fun _ => []⟩
theorem k_l07Recover : FnOk Tryz.prog 101 c_l07Recover := by
  refine fn_mk [0, 1, 2, 3, 4, 5, 6, 7, 8, 9, 10, 11] [.cell 2 146, .cell 3 144, .tmp 4] (env_cons (cs := []) k_l07Apply (env_cons (cs := []) k_l02Frames (env_nil (tyTab_ok [])))) mixed Tryz.func101 rfl (by decide) rfl (by decide) rfl ?_
  intro ps hT hpre W hW
  simp only [c_l07Recover, TyA, Ty, Tys] at hT hpre
  obtain ⟨_, _, rfl, ⟨_, rfl, _, _, rfl, ⟨b, rfl, hb⟩, _, _, rfl, ⟨sure, rfl, hsure⟩, rfl⟩, rfl⟩ := hT
  simp only [nth_zero, nth_succ, pv_A, pv_S] at hpre
  have hfl := frmGo_le b.length b
  have hfl : (frmR b).2.1 ≤ b.length ∧ (frmR b).1.length ≤ (frmR b).2.1 := hfl
  refine hW.vc [(4, [3, 4], .take 0 <| .take 2 <| .tak2 1 <| .alt 3 (.alt 4 (.alt 5 (.done) .stop) .stop) .stop), (8, [10], .take 0 <| .take 1 <| .take 2 <| .take 3 <| .take 4 <| .alt 5 (.take 6 <| .take 7 <| .alt 8 (.alt 9 (.alt 10 (.alt 11 (.done) .stop) .stop) .stop) (.alt 9 (.alt 8 (.alt 10 (.alt 11 (.done) .stop) .stop) (.alt 10 (.take 8 <| .alt 11 (.done) .stop) .stop)) .stop)) (.alt 9 (.alt 5 (.take 6 <| .take 7 <| .alt 8 (.alt 10 (.alt 11 (.done) .stop) .stop) (.alt 10 (.take 8 <| .alt 11 (.done) .stop) .stop)) .stop) .stop)), (10, [2, 3], .take 0 <| .tak2 1 <| .alt 2 (.alt 3 (.alt 4 (.done) .stop) .stop) .stop), (12, [7, 8], .take 0 <| .take 1 <| .take 3 <| .take 5 <| .tak2 2 <| .take 4 <| .tak2 6 <| .alt 7 (.alt 8 (.alt 9 (.done) .stop) .stop) .stop)] _ _ ?_
  simp [-List.getD_eq_getElem?_getD, c_l07Recover, c_l02Frames, c_l07Apply, c_readFrames, c_readFrames]
  refine ⟨hpre, fun h => ?_, fun h => ?_⟩
  · rw [rcs_a h]
    exact ⟨by decide +kernel, ⟨rfl, rfl, rfl⟩, ⟨rfl, rfl⟩, h⟩
  refine hW.loopS _ _ _ [.fx 8 [.int .i64, .int .i64, .list (.agg [.int .i64, .str])], .sl 9 .dp (.int .i64)] (fun ys => ∃ (s : ST) (i : Nat), ys = [.agg [.int .i64 s.t, .int .i64 s.v, .list s.log], .int .i64 i] ∧ i ≤ (frmR b).1.length ∧ s.ok = true ∧ recGo ST.one (frmR b).1 = recGo s ((frmR b).1.drop i)) (fun ys => (frmR b).1.length - (nth ys 1).I.toNat) ?_ ?_
  · simp [-List.getD_eq_getElem?_getD, c_l07Recover, c_l02Frames, c_l07Apply, c_readFrames]
    exact ⟨ST.one, 0, ⟨⟨rfl, rfl, rfl⟩, rfl⟩, by omega, by decide, rfl⟩
  · rintro ys ⟨s, i, rfl, g1, g2, g3⟩
    have hs := (ST.facts g2).2.2.2
    refine hW.vc [(4, [3, 4], .take 0 <| .take 2 <| .tak2 1 <| .alt 3 (.alt 4 (.alt 5 (.done) .stop) .stop) .stop), (8, [10], .take 0 <| .take 1 <| .take 2 <| .take 3 <| .take 4 <| .alt 5 (.take 6 <| .take 7 <| .alt 8 (.alt 9 (.alt 10 (.alt 11 (.done) .stop) .stop) .stop) (.alt 9 (.alt 8 (.alt 10 (.alt 11 (.done) .stop) .stop) (.alt 10 (.take 8 <| .alt 11 (.done) .stop) .stop)) .stop)) (.alt 9 (.alt 5 (.take 6 <| .take 7 <| .alt 8 (.alt 10 (.alt 11 (.done) .stop) .stop) (.alt 10 (.take 8 <| .alt 11 (.done) .stop) .stop)) .stop) .stop)), (10, [2, 3], .take 0 <| .tak2 1 <| .alt 2 (.alt 3 (.alt 4 (.done) .stop) .stop) .stop), (12, [7, 8], .take 0 <| .take 1 <| .take 3 <| .take 5 <| .tak2 2 <| .take 4 <| .tak2 6 <| .alt 7 (.alt 8 (.alt 9 (.done) .stop) .stop) .stop)] _ _ ?_
    simp [-List.getD_eq_getElem?_getD, c_l07Recover, c_l02Frames, c_l07Apply, c_readFrames, staOf, c_readFrames]
    have e : (⟨s.t, s.v, s.log⟩ : ST) = s := rfl
    rw [e]
    refine fun _ => ⟨fun h1 => ⟨by decide +kernel, h1, fun _ => ?_⟩, fun h1 => ?_⟩
    · obtain ⟨d, d1, d2, d3⟩ := frmGo_mem b.length b (nth (frmR b).1 i) (nth_mem h1)
      obtain ⟨a1, a2⟩ := appS_ok s (nth (frmR b).1 i).S
      refine ⟨⟨by omega, by rw [d1, pv_S]; exact d3⟩, fun h2 => ?_, fun h2 => ?_⟩
      · rw [a1] at h2
        rw [recGo_step h1, if_neg (by simp [h2])] at g3
        rw [rcs_b h g3]
        exact ⟨by decide +kernel, ⟨rfl, rfl, rfl⟩, ⟨rfl, rfl⟩, rfl⟩
      · rw [a1] at h2
        rw [recGo_step h1, if_pos h2] at g3
        rw [wrap64 (by omega), a2 h2]
        exact ⟨⟨_, i + 1, ⟨⟨rfl, rfl, rfl⟩, rfl⟩, by omega, appI_ok h2, g3⟩, by omega⟩
    · rw [List.drop_eq_nil_of_le h1] at g3
      rw [rcs_c h g3]
      exact ⟨by decide +kernel, hfl.1, ⟨rfl, rfl, rfl⟩, ⟨rfl, rfl⟩, rfl⟩
def stoB (b : List UInt8) (sure : Int) : Bool := leB b.length 60000 && inB sure 0 b.length
def c_isStore : FSpec := ⟨[(.rd, .agg [.str, .int .i64])], [.bool], true, fun _ => True, fun ps => [.bool (stoB (nth (nth ps 0).A 0).S (nth (nth ps 0).A 1).I)], fun _ => []⟩
theorem k_isStore : FnOk Tryz.prog 157 c_isStore := by
  refine fn_mk [0, 1, 2] [.tmp 2] (env_cons (cs := []) k_within (env_nil (tyTab_ok []))) mixed Tryz.func157 rfl (by decide) rfl (by decide) rfl ?_
  intro ps hT hpre W hW
  simp only [c_isStore, TyA, Ty, Tys] at hT hpre
  obtain ⟨_, _, rfl, ⟨_, rfl, _, _, rfl, ⟨b, rfl, hb⟩, _, _, rfl, ⟨sure, rfl, hsure⟩, rfl⟩, rfl⟩ := hT
  refine hW.vc [] _ _ ?_
  simp [-List.getD_eq_getElem?_getD, c_isStore, c_within]
  exact fun _ _ => rfl
def c_StoreOK : FSpec := c_isStore
theorem k_StoreOK : FnOk Tryz.prog 100 c_StoreOK := by
  refine fn_mk [0, 1, 2] [.tmp 2] (env_cons (cs := []) k_l01In (env_nil (tyTab_ok []))) mixed Tryz.func100 rfl (by decide) rfl (by decide) rfl ?_
  intro ps hT hpre W hW
  simp only [c_StoreOK, TyA, Ty, Tys] at hT hpre
  simp only [c_isStore, TyA, Ty, Tys] at hT
  obtain ⟨_, _, rfl, ⟨_, rfl, _, _, rfl, ⟨b, rfl, hb⟩, _, _, rfl, ⟨sure, rfl, hsure⟩, rfl⟩, rfl⟩ := hT
  refine hW.vc [] _ _ ?_
  simp [-List.getD_eq_getElem?_getD, c_StoreOK, c_l01In, c_isStore, c_within, c_within, c_isStore]
  exact fun _ _ => rfl
theorem eqRow2_of {a b : PV} (h1 : (nth a.A 0).I = (nth b.A 0).I) (h2 : (nth a.A 1).S = (nth b.A 1).S) : eqRow2 a b = true := by simp [eqRow2, eqRow1, h1, h2]
theorem eqRow2_ne {a b : PV} (h : (nth a.A 0).I = (nth b.A 0).I → ¬ (nth a.A 1).S = (nth b.A 1).S) : eqRow2 a b = false := by
  cases hk : eqRow2 a b with
  | false => rfl
  | true =>
    simp only [eqRow2, eqRow1, Bool.and_eq_true, beq_iff_eq] at hk
    exact absurd hk.2 (h hk.1)
theorem comL_eqL : ∀ {us vs : List PV}, us.length = vs.length → ((comL us vs : Int) == us.length) = eqL eqRow2 us vs
  | [], [], _ => rfl
  | [], _ :: _, h => by simp at h
  | _ :: _, [], h => by simp at h
  | a :: us, b :: vs, h => by
    have ih := comL_eqL (us := us) (vs := vs) (by simpa using h)
    simp only [comL, eqL]
    cases hk : eqRow2 a b with
    | false => simp; omega
    | true =>
      rw [if_pos rfl, Bool.true_and, ← ih, Bool.eq_iff_iff]
      simp only [beq_iff_eq, List.length_cons]
      omega
def c_l07Common : FSpec := ⟨[(.rd, .list (.agg [.int .i64, .str])), (.rd, .list (.agg [.int .i64, .str]))], [.int .i64], true, fun _ => True, fun ps => [.int .i64 (comL (nth ps 0).L (nth ps 1).L)], fun _ => []⟩
theorem k_l07Common : FnOk Tryz.prog 148 c_l07Common := by
  refine fn_mk [0, 1, 4, 5] [.tmp 4] (env_nil (tyTab_ok [])) mixed Tryz.func148 rfl (by decide) rfl (by decide) rfl ?_
  intro ps hT hpre W hW
  simp only [c_l07Common, TyA, Ty, Tys] at hT hpre
  obtain ⟨_, _, rfl, ⟨es, rfl, hes, tes⟩, _, _, rfl, ⟨fs, rfl, hfs, tfs⟩, rfl⟩ := hT
  refine hW.vc [(2, [], .take 0 <| .take 1 <| .take 2 <| .take 3 <| .take 4 <| .take 5 <| .take 6 <| .take 7 <| .take 8 <| .take 9 <| .take 10 <| .take 11 <| .take 12 <| .take 13 <| .take 14 <| .take 15 <| .take 16 <| .take 17 <| .take 18 <| .take 19 <| .take 20 <| .done)] _ _ ?_
  simp [-List.getD_eq_getElem?_getD, c_l07Common]
  refine hW.loopS _ _ _ [.sl 5 .dp (.int .i64)] (fun ys => ∃ i : Nat, ys = [.int .i64 i] ∧ i ≤ comL es fs) (fun ys => es.length - (nth ys 0).I.toNat) ?_ ?_
  · simp [-List.getD_eq_getElem?_getD, c_l07Common]
    exact ⟨0, rfl, by omega⟩
  · rintro ys ⟨i, rfl, h1⟩
    refine hW.vc [(2, [], .take 0 <| .take 1 <| .take 2 <| .take 3 <| .take 4 <| .take 5 <| .take 6 <| .take 7 <| .take 8 <| .take 9 <| .take 10 <| .take 11 <| .take 12 <| .take 13 <| .take 14 <| .take 15 <| .take 16 <| .take 17 <| .take 18 <| .take 19 <| .take 20 <| .done)] _ _ ?_
    simp [-List.getD_eq_getElem?_getD, c_l07Common]
    have hc := comL_le es fs
    refine ⟨by decide +kernel, fun _ _ => ⟨fun a b => ⟨⟨a, b⟩, a⟩, fun _ _ => ⟨fun a b => ⟨⟨a, b⟩, by decide +kernel⟩, fun a b c d => ?_, fun h => ?_⟩⟩⟩
    · have := (comL_from h1 a b).1 (eqRow2_of c d)
      rw [wrap64 (by omega)]
      exact ⟨⟨i + 1, by omega, by omega⟩, by omega⟩
    · by_cases a : i < es.length
      · by_cases b : i < fs.length
        · rw [(comL_from h1 a b).2 (eqRow2_ne (h a b))]
        · omega
      · omega
def c_l09Same : FSpec := ⟨[(.rd, .agg [.int .i64, .int .i64, .list (.agg [.int .i64, .str])]), (.rd, .agg [.int .i64, .int .i64, .list (.agg [.int .i64, .str])])], [.bool], true, fun _ => True, fun ps => [.bool (decide ((nth (nth ps 0).A 0).I = (nth (nth ps 1).A 0).I) && decide ((nth (nth ps 0).A 1).I = (nth (nth ps 1).A 1).I) && eqL eqRow2 (nth (nth ps 0).A 2).L (nth (nth ps 1).A 2).L)], fun _ => []⟩
theorem k_l09Same : FnOk Tryz.prog 102 c_l09Same := by
  refine fn_mk [0, 1, 2, 3, 4] [.tmp 4] (env_cons (cs := []) k_l07Common (env_nil (tyTab_ok []))) mixed Tryz.func102 rfl (by decide) rfl (by decide) rfl ?_
  intro ps hT hpre W hW
  simp only [c_l09Same, TyA, Ty, Tys] at hT hpre
  obtain ⟨_, _, rfl, ⟨_, rfl, _, _, rfl, ⟨t, rfl, ht⟩, _, _, rfl, ⟨v, rfl, hv⟩, _, _, rfl, ⟨es, rfl, hes, tes⟩, rfl⟩, _, _, rfl, ⟨_, rfl, _, _, rfl, ⟨t2, rfl, ht2⟩, _, _, rfl, ⟨v2, rfl, hv2⟩, _, _, rfl, ⟨es2, rfl, hes2, tes2⟩, rfl⟩, rfl⟩ := hT
  refine hW.vc [(1, [], .take 0 <| .take 1 <| .take 2 <| .take 3 <| .take 4 <| .take 5 <| .take 6 <| .take 7 <| .take 8 <| .take 9 <| .take 10 <| .take 11 <| .take 12 <| .take 13 <| .take 14 <| .take 15 <| .take 16 <| .take 17 <| .take 18 <| .take 19 <| .take 20 <| .take 21 <| .take 22 <| .take 23 <| .take 24 <| .take 25 <| .take 27 <| .take 28 <| .take 29 <| .alt 26 (.take 30 <| .take 31 <| .alt 32 (.done) .stop) .stop)] _ _ ?_
  simp [-List.getD_eq_getElem?_getD, c_l09Same, c_l07Common]
  refine ⟨by decide +kernel, fun _ _ _ => ?_⟩
  by_cases hl : es.length = es2.length
  · have : decide ((es.length : Int) = es2.length) = true := decide_eq_true (by omega)
    rw [comL_eqL hl, this, Bool.and_true]
    rfl
  · have : decide ((es.length : Int) = es2.length) = false := decide_eq_false (by omega)
    rw [this, eqL_len hl]
    simp
end Go.Proofs.YtkofjkjcbljkdaaGreatDoor
end

section
namespace Go.Proofs.YtkofjkjcbljkdaaGreatDoor
variable [LaidG]
set_option maxRecDepth 100000
set_option linter.unusedSimpArgs false
end Go.Proofs.YtkofjkjcbljkdaaGreatDoor
end

section
namespace Go.Proofs.YtkofjkjcbljkdaaGreatDoor
variable [LaidG]
set_option maxRecDepth 100000
set_option linter.unusedSimpArgs false
end Go.Proofs.YtkofjkjcbljkdaaGreatDoor
end

section
namespace Go.Proofs.YtkofjkjcbljkdaaGreatDoor
variable [LaidG]
set_option maxRecDepth 100000
set_option linter.unusedSimpArgs false
end Go.Proofs.YtkofjkjcbljkdaaGreatDoor
end

section
namespace Go.Proofs.YtkofjkjcbljkdaaGreatDoor
variable [LaidG]
set_option maxRecDepth 100000
set_option linter.unusedSimpArgs false
end Go.Proofs.YtkofjkjcbljkdaaGreatDoor
end

section
namespace Go.Proofs.YtkofjkjcbljkdaaGreatDoor
variable [LaidG]
set_option maxRecDepth 100000
set_option linter.unusedSimpArgs false
def c_sMessageOK : FSpec := c_isMessage
theorem k_sMessageOK : FnOk Tryz.prog 104 c_sMessageOK := by
  refine fn_mk [0, 1, 2] [.tmp 2] (env_cons (cs := []) k_StateOK (env_cons (cs := []) k_l01In (env_nil (tyTab_ok [])))) mixed Tryz.func104 rfl (by decide) rfl (by decide) rfl ?_
  intro ps hT hpre W hW
  simp only [c_sMessageOK, TyA, Ty, Tys] at hT hpre
  simp only [c_isMessage, TyA, Ty, Tys] at hT hpre
  obtain ⟨_, _, rfl, ⟨_, rfl, _, _, rfl, ⟨m0, rfl, hm0⟩, _, _, rfl, ⟨m1, rfl, hm1⟩, _, _, rfl, ⟨m2, rfl, hm2⟩, _, _, rfl, ⟨m3, rfl, hm3⟩, _, _, rfl, ⟨m4, rfl, hm4⟩, _, _, rfl, ⟨m5, rfl, hm5⟩, _, _, rfl, ⟨m6, rfl, hm6⟩, _, _, rfl, ⟨m7, rfl⟩, _, _, rfl, ⟨m8, rfl, hm8, tm8⟩, rfl⟩, rfl⟩ := hT
  refine hW.vc [(5, [], .take 0 <| .take 1 <| .take 2 <| .take 3 <| .take 4 <| .take 5 <| .take 6 <| .take 7 <| .take 8 <| .take 9 <| .take 10 <| .take 11 <| .take 12 <| .alt 13 (.take 14 <| .take 15 <| .take 16 <| .take 17 <| .take 18 <| .take 19 <| .take 20 <| .take 21 <| .take 22 <| .take 23 <| .take 24 <| .take 25 <| .take 26 <| .take 27 <| .take 28 <| .take 29 <| .take 30 <| .take 31 <| .take 32 <| .take 33 <| .take 34 <| .take 35 <| .take 36 <| .take 37 <| .take 38 <| .take 39 <| .take 40 <| .alt 41 (.done) .stop) .stop)] _ _ ?_
  simp [-List.getD_eq_getElem?_getD, c_sMessageOK, c_l01In, c_StateOK, c_isMessage, c_within, c_isState, c_within, c_isState, c_isMessage, mgOf]
  refine ⟨fun h => ?_, fun b1 b2 b3 b4 b5 b6 b7 b8 => ⟨fun h _ => ?_, fun h => ⟨by decide +kernel, fun _ _ => ⟨fun a b c => ⟨⟨⟨a, b⟩, c⟩, List.length_pos_iff.2 c⟩, fun _ => ⟨fun a b => ⟨⟨a, b⟩, fun c => ⟨⟨a, b⟩, c⟩⟩, fun a b c => ⟨⟨⟨a, b⟩, c⟩, fun d => ⟨⟨⟨a, b⟩, c⟩, d⟩⟩, ?_⟩⟩⟩⟩⟩
  · have : mgB1 ⟨m0, m1, m2, m3, m4, m5, m6, m7, m8⟩ = false := by
      rcases h with ((((((h | h) | h) | h) | h) | h) | h) | h <;> simp [mgB1, h]
    simp [mgB, this]
  · have h1 : mgB1 ⟨m0, m1, m2, m3, m4, m5, m6, m7, m8⟩ = true := by simp [mgB1, b1, b2, b3, b4, b5, b6, b7, b8]
    have hk : (m0 == 3) = false := by simp [h]
    simp only [mgB, h1, hk, cond_false, Bool.true_and]
    rw [Bool.eq_iff_iff]
    simp
  · have h1 : mgB1 ⟨m0, m1, m2, m3, m4, m5, m6, m7, m8⟩ = true := by simp [mgB1, b1, b2, b3, b4, b5, b6, b7, b8]
    have hk : (m0 == 3) = true := by simp [h]
    rw [wrap64 (n := 60 - m4) (by simp [inB] at b6; omega)]
    have hq : stB m3 0 m8 = entsB m3 m8 := by
      have q1 : inB m3 0 1000 = true := by simp [inB] at b5 ⊢; omega
      have q2 : inB 0 (-1) 4 = true := by decide
      simp [stB, q1, q2]
    simp only [mgB, h1, hk, cond_true, Bool.true_and, mgB2, leB, ltB, hq]
    rw [Bool.eq_iff_iff]
    simp
    exact fun _ _ => And.comm
def c_szMessage : FSpec := ⟨[(.rd, .agg [.int .i64, .int .i64, .int .i64, .int .i64, .int .i64, .int .i64, .int .i64, .bool, .list (.agg [.int .i64, .str])]), (.rd, .int .i64)], [.int .i64], true, fun ps => 0 ≤ (nth ps 1).I, fun ps => [.int .i64 (szGs rowLen (nth (nth ps 0).A 8).L (nth ps 1).I)], fun _ => []⟩
theorem k_szMessage : FnOk Tryz.prog 143 c_szMessage := by
  refine fn_mk [0, 1, 2, 4] [.tmp 4] (env_cons (cs := []) k_szEntryS (env_nil (tyTab_ok []))) mixed Tryz.func143 rfl (by decide) rfl (by decide) rfl ?_
  intro ps hT hpre W hW
  simp only [c_szMessage, TyA, Ty, Tys] at hT hpre
  obtain ⟨_, _, rfl, ⟨_, rfl, _, _, rfl, ⟨m0, rfl, hm0⟩, _, _, rfl, ⟨m1, rfl, hm1⟩, _, _, rfl, ⟨m2, rfl, hm2⟩, _, _, rfl, ⟨m3, rfl, hm3⟩, _, _, rfl, ⟨m4, rfl, hm4⟩, _, _, rfl, ⟨m5, rfl, hm5⟩, _, _, rfl, ⟨m6, rfl, hm6⟩, _, _, rfl, ⟨m7, rfl⟩, _, _, rfl, ⟨m8, rfl, hm8, tm8⟩, rfl⟩, _, _, rfl, ⟨l, rfl, hl⟩, rfl⟩ := hT
  simp only [nth_zero, nth_succ, pv_I] at hpre
  have h1 := szGs_le rowLen_nn (es := m8) hpre
  refine hW.vc [] _ _ ?_
  simp [-List.getD_eq_getElem?_getD, c_szMessage, c_szEntryS]
  exact ⟨hpre, fun q => by omega⟩
def c_toMessage : FSpec := ⟨[(.rd, .agg [.int .i64, .int .i64, .int .i64, .int .i64, .int .i64, .int .i64, .int .i64, .bool, .list (.agg [.int .i64, .str])])], [.agg [.int .i64, .int .i64, .int .i64, .int .i64, .int .i64, .int .i64, .int .i64, .bool, .list (.agg [.int .i64, .str])]], true, fun ps => (nth (nth ps 0).A 8).L.length ≤ 1048576, fun ps => [nth ps 0], fun _ => []⟩
theorem k_toMessage : FnOk Tryz.prog 154 c_toMessage := by
  refine fn_mk [0, 1, 2, 3] [.cell 2 152] (env_cons (cs := []) k_toEntryS (env_nil (tyTab_ok []))) mixed Tryz.func154 rfl (by decide) rfl (by decide) rfl ?_
  intro ps hT hpre W hW
  simp only [c_toMessage, TyA, Ty, Tys] at hT hpre
  obtain ⟨_, _, rfl, ⟨_, rfl, _, _, rfl, ⟨m0, rfl, hm0⟩, _, _, rfl, ⟨m1, rfl, hm1⟩, _, _, rfl, ⟨m2, rfl, hm2⟩, _, _, rfl, ⟨m3, rfl, hm3⟩, _, _, rfl, ⟨m4, rfl, hm4⟩, _, _, rfl, ⟨m5, rfl, hm5⟩, _, _, rfl, ⟨m6, rfl, hm6⟩, _, _, rfl, ⟨m7, rfl⟩, _, _, rfl, ⟨m8, rfl, hm8, tm8⟩, rfl⟩, rfl⟩ := hT
  simp only [nth_zero, nth_succ, pv_A, pv_L] at hpre
  refine hW.vc [] _ _ ?_
  simp [-List.getD_eq_getElem?_getD, c_toMessage, c_toEntryS]
  exact hpre
end Go.Proofs.YtkofjkjcbljkdaaGreatDoor
end

section
namespace Go.Proofs.YtkofjkjcbljkdaaGreatDoor
variable [LaidG]
set_option maxRecDepth 100000
set_option linter.unusedSimpArgs false
def c_EqualE : FSpec := ⟨[(.rd, .list (.agg [.int .i64, .str])), (.rd, .list (.agg [.int .i64, .str]))], [.bool], true, fun _ => True, fun ps => [.bool (eqL eqRow2 (nth ps 0).L (nth ps 1).L)], fun _ => []⟩
theorem k_EqualE : FnOk Tryz.prog 159 c_EqualE := by
  refine fn_mk [0, 1, 4, 5, 12, 13] [.tmp 4] (env_nil (tyTab_ok [])) mixed Tryz.func159 rfl (by decide) rfl (by decide) rfl ?_
  intro ps hT hpre W hW
  simp only [c_EqualE, TyA, Ty, Tys] at hT hpre
  obtain ⟨_, _, rfl, ⟨es, rfl, hes, tes⟩, _, _, rfl, ⟨fs, rfl, hfs, tfs⟩, rfl⟩ := hT
  refine hW.vc [(6, [], .take 0 <| .take 1 <| .take 2 <| .take 3 <| .take 4 <| .take 5 <| .take 6 <| .take 7 <| .take 8 <| .done)] _ _ ?_
  simp [-List.getD_eq_getElem?_getD, c_EqualE]
  refine fun _ _ => ⟨fun h3 => eqL_len (by omega), fun h3 _ => ?_⟩
  refine hW.loopS _ _ _ [.sl 13 .dp (.int .i64)] (fun ys => ∃ i : Nat, ys = [.int .i64 i] ∧ i ≤ es.length ∧ eqL eqRow2 es fs = eqL eqRow2 (es.drop i) (fs.drop i)) (fun ys => es.length - (nth ys 0).I.toNat) ?_ ?_
  · simp [-List.getD_eq_getElem?_getD, c_EqualE]
    exact ⟨0, rfl, by omega, by simp⟩
  · rintro ys ⟨i, rfl, h4, h5⟩
    refine hW.vc [(6, [], .take 0 <| .take 1 <| .take 2 <| .take 3 <| .take 4 <| .take 5 <| .take 6 <| .take 7 <| .take 8 <| .done)] _ _ ?_
    simp [-List.getD_eq_getElem?_getD, c_EqualE]
    refine ⟨fun h6 => ⟨by decide +kernel, h6, fun _ _ _ => ⟨by omega, fun _ _ _ => ⟨by decide +kernel, fun h7 => ?_, fun h7 h8 => ?_⟩⟩⟩, fun h6 => ?_⟩
    · have hx : eqRow2 (nth es i) (nth fs i) = false := eqRow2_ne fun a b => by
        rcases h7 with h7 | h7
        · exact h7 a
        · exact h7 b
      rw [h5, drop_nth h6, drop_nth (by omega : i < fs.length), eqL, hx, Bool.false_and]
    · rw [wrap64 (by omega)]
      refine ⟨⟨i + 1, by omega, by omega, ?_⟩, by omega⟩
      rw [h5, drop_nth h6, drop_nth (by omega : i < fs.length), eqL, eqRow2_of h7 h8, Bool.true_and]
    · rw [h5, List.drop_eq_nil_of_le h6, List.drop_eq_nil_of_le (by omega)]; rfl
def mgX (cnt : Int) (e : PV) : Bool := !mgB (mgOf e.A) || decide (cnt ≤ (mgOf e.A).frm) || decide (cnt ≤ (mgOf e.A).to)
theorem mgX_eta (w : Int) (e : PV) : mgX w (.agg [.int .i64 (nth e.A 0).I, .int .i64 (nth e.A 1).I, .int .i64 (nth e.A 2).I, .int .i64 (nth e.A 3).I, .int .i64 (nth e.A 4).I, .int .i64 (nth e.A 5).I, .int .i64 (nth e.A 6).I, .bool (nth e.A 7).B, .list (nth e.A 8).L]) = mgX w e := rfl
def c_isCluster1 : FSpec := ⟨[(.rd, .agg [.int .i64, .int .i64, .int .i64, .int .i64, .int .i64, .int .i64, .int .i64, .bool, .list (.agg [.int .i64, .str])]), (.rd, .box [.int .i64])], [.bool], true, fun _ => True, fun ps => [.bool (mgX (nth (nth ps 1).A 0).I (nth ps 0))], fun _ => []⟩
theorem k_isCluster1 : FnOk Tryz.prog 161 c_isCluster1 := by
  refine fn_mk [0, 1, 2, 3] [.tmp 3] (env_cons (cs := []) k_isMessage (env_nil (tyTab_ok []))) mixed Tryz.func161 rfl (by decide) rfl (by decide) rfl ?_
  intro ps hT hpre W hW
  simp only [c_isCluster1, TyA, Ty, Tys] at hT hpre
  obtain ⟨_, _, rfl, hm, _, _, rfl, ⟨_, rfl, _, _, rfl, ⟨w, rfl, hw⟩, rfl⟩, rfl⟩ := hT
  obtain ⟨_, rfl, _, _, rfl, ⟨m0, rfl, hm0⟩, _, _, rfl, ⟨m1, rfl, hm1⟩, _, _, rfl, ⟨m2, rfl, hm2⟩, _, _, rfl, ⟨m3, rfl, hm3⟩, _, _, rfl, ⟨m4, rfl, hm4⟩, _, _, rfl, ⟨m5, rfl, hm5⟩, _, _, rfl, ⟨m6, rfl, hm6⟩, _, _, rfl, ⟨m7, rfl⟩, _, _, rfl, ⟨m8, rfl, hm8, tm8⟩, rfl⟩ := hm
  refine hW.vc [] _ _ ?_
  simp [-List.getD_eq_getElem?_getD, c_isCluster1, c_isMessage, mgOf, mgX]
  rfl
def c_IndexFunc_isCluster1 : FSpec := ⟨[(.rd, .list (.agg [.int .i64, .int .i64, .int .i64, .int .i64, .int .i64, .int .i64, .int .i64, .bool, .list (.agg [.int .i64, .str])])), (.rd, .fn 161 [.box [.int .i64]])], [.int .i64], true, fun _ => True, fun ps => [.int .i64 (idxGo (mgX (nth (nth (nth ps 1).A 0).A 0).I) 0 (nth ps 0).L)], fun _ => []⟩
theorem k_IndexFunc_isCluster1 : FnOk Tryz.prog 199 c_IndexFunc_isCluster1 := by
  refine fn_mk [0, 1, 4, 5, 7, 8] [.tmp 4] (env_cons (cs := []) k_isCluster1 (env_nil (tyTab_ok []))) mixed Tryz.func199 rfl (by decide) rfl (by decide) rfl ?_
  intro ps hT hpre W hW
  simp only [c_IndexFunc_isCluster1, TyA, Ty, Tys] at hT hpre
  obtain ⟨_, _, rfl, ⟨es, rfl, he, hes⟩, _, _, rfl, ⟨_, rfl, _, _, rfl, ⟨_, rfl, _, _, rfl, ⟨w, rfl, hw⟩, rfl⟩, rfl⟩, rfl⟩ := hT
  refine hW.vc [] _ _ ?_
  simp [-List.getD_eq_getElem?_getD, c_IndexFunc_isCluster1, c_isCluster1]
  intro h1
  refine hW.loopS _ _ _ [.sl 8 .dp (.int .i64)] (fun ys => ∃ i : Nat, ys = [.int .i64 i] ∧ i ≤ es.length ∧ idxGo (mgX w) 0 es = idxGo (mgX w) i (es.drop i)) (fun ys => es.length - (nth ys 0).I.toNat) ?_ ?_
  · simp [-List.getD_eq_getElem?_getD, c_IndexFunc_isCluster1, c_isCluster1]
    exact ⟨0, rfl, by simp, by simp⟩
  · rintro ys ⟨i, rfl, h2, h3⟩
    refine hW.vc [] _ _ ?_
    simp [-List.getD_eq_getElem?_getD, c_IndexFunc_isCluster1, c_isCluster1, mgX_eta]
    refine ⟨fun h4 => ⟨h4, fun _ _ _ _ _ _ _ _ _ _ _ _ _ _ _ => ⟨fun h5 => ?_, fun h5 => ?_⟩⟩, fun h4 => ?_⟩
    · rw [h3, drop_nth h4]; simp [idxGo, h5]
    · rw [wrap64 (by omega)]
      refine ⟨⟨i + 1, by omega, by omega, ?_⟩, by omega⟩
      rw [h3, drop_nth h4]; simp [idxGo, h5]
    · rw [h3, List.drop_eq_nil_of_le h4]; rfl
def c_ContainsFunc_isCluster1 : FSpec := ⟨[(.rd, .list (.agg [.int .i64, .int .i64, .int .i64, .int .i64, .int .i64, .int .i64, .int .i64, .bool, .list (.agg [.int .i64, .str])])), (.rd, .fn 161 [.box [.int .i64]])], [.bool], true, fun _ => True, fun ps => [.bool ((nth ps 0).L.any (mgX (nth (nth (nth ps 1).A 0).A 0).I))], fun _ => []⟩
theorem k_ContainsFunc_isCluster1 : FnOk Tryz.prog 160 c_ContainsFunc_isCluster1 := by
  refine fn_mk [0, 1, 4] [.tmp 4] (env_cons (cs := [161]) k_IndexFunc_isCluster1 (env_nil (tyTab_ok []))) mixed Tryz.func160 rfl (by decide) rfl (by decide) rfl ?_
  intro ps hT hpre W hW
  simp only [c_ContainsFunc_isCluster1, TyA, Ty, Tys] at hT hpre
  obtain ⟨_, _, rfl, ⟨es, rfl, he, hes⟩, _, _, rfl, ⟨_, rfl, _, _, rfl, ⟨_, rfl, _, _, rfl, ⟨w, rfl, hw⟩, rfl⟩, rfl⟩, rfl⟩ := hT
  refine hW.vc [] _ _ ?_
  simp [-List.getD_eq_getElem?_getD, c_ContainsFunc_isCluster1, c_IndexFunc_isCluster1]
  exact idxGo_any _ _ _
def longD (s : List UInt8) : Bool := decide (s.length > 400)
def c_isCluster2 : FSpec := ⟨[(.rd, .str)], [.bool], true, fun _ => True, fun ps => [.bool (longD (nth ps 0).S)], fun _ => []⟩
theorem k_isCluster2 : FnOk Tryz.prog 163 c_isCluster2 := by
  refine fn_mk [0, 2] [.tmp 2] (env_nil (tyTab_ok [])) mixed Tryz.func163 rfl (by decide) rfl (by decide) rfl ?_
  intro ps hT hpre W hW
  simp only [c_isCluster2, TyA, Ty, Tys] at hT hpre
  obtain ⟨_, _, rfl, ⟨l, rfl, hl⟩, rfl⟩ := hT
  refine hW.vc [] _ _ ?_
  simp [-List.getD_eq_getElem?_getD, c_isCluster2]
  exact fun _ => by unfold longD; congr 1; simp only [eq_iff_iff]; omega
def c_IndexFunc_isCluster2 : FSpec := ⟨[(.rd, .list .str), (.rd, .fn 163 [])], [.int .i64], true, fun ps => True, fun ps => [.int .i64 (idxGo (fun e => longD e.S) 0 (nth ps 0).L)], fun _ => []⟩
theorem k_IndexFunc_isCluster2 : FnOk Tryz.prog 121 c_IndexFunc_isCluster2 := by
  refine fn_mk [0, 1, 4, 5, 7, 8] [.tmp 4] (env_cons (cs := []) k_isCluster2 (env_nil (tyTab_ok []))) mixed Tryz.func121 rfl (by decide) rfl (by decide) rfl ?_
  intro ps hT hpre W hW
  simp only [c_IndexFunc_isCluster2, TyA, Ty, Tys] at hT hpre
  obtain ⟨_, _, rfl, ⟨es, rfl, he, hes⟩, _, _, rfl, ⟨_, rfl, rfl⟩, rfl⟩ := hT
  refine hW.vc [] _ _ ?_
  simp [-List.getD_eq_getElem?_getD, c_IndexFunc_isCluster2, c_isCluster2]
  intro h1
  refine hW.loopS _ _ _ [.sl 8 .dp (.int .i64)] (fun ys => ∃ i : Nat, ys = [.int .i64 i] ∧ i ≤ es.length ∧ idxGo (fun e => longD e.S) 0 es = idxGo (fun e => longD e.S) i (es.drop i)) (fun ys => es.length - (nth ys 0).I.toNat) ?_ ?_
  · simp [-List.getD_eq_getElem?_getD, c_IndexFunc_isCluster2, c_isCluster2]
    exact ⟨0, rfl, by simp, by simp⟩
  · rintro ys ⟨i, rfl, h2, h3⟩
    refine hW.vc [] _ _ ?_
    simp [-List.getD_eq_getElem?_getD, c_IndexFunc_isCluster2, c_isCluster2]
    refine ⟨fun h4 => ⟨h4, fun _ => ⟨fun h5 => ?_, fun h5 => ?_⟩⟩, fun h4 => ?_⟩
    · rw [h3, drop_nth h4]; simp [idxGo, h5]
    · rw [wrap64 (by omega)]
      refine ⟨⟨i + 1, by omega, by omega, ?_⟩, by omega⟩
      rw [h3, drop_nth h4]; simp [idxGo, h5]
    · rw [h3, List.drop_eq_nil_of_le h4]; rfl
def c_ContainsFunc_isCluster2 : FSpec := ⟨[(.rd, .list .str), (.rd, .fn 163 [])], [.bool], true, fun ps => True, fun ps => [.bool ((nth ps 0).L.any (fun e => longD e.S))], fun _ => []⟩
theorem k_ContainsFunc_isCluster2 : FnOk Tryz.prog 65 c_ContainsFunc_isCluster2 := by
  refine fn_mk [0, 1, 4] [.tmp 4] (env_cons (cs := [163]) k_IndexFunc_isCluster2 (env_nil (tyTab_ok []))) mixed Tryz.func65 rfl (by decide) rfl (by decide) rfl ?_
  intro ps hT hpre W hW
  simp only [c_ContainsFunc_isCluster2, TyA, Ty, Tys] at hT hpre
  obtain ⟨_, _, rfl, ⟨es, rfl, he, hes⟩, _, _, rfl, ⟨_, rfl, rfl⟩, rfl⟩ := hT
  refine hW.vc [] _ _ ?_
  simp [-List.getD_eq_getElem?_getD, c_ContainsFunc_isCluster2, c_IndexFunc_isCluster2]
  exact idxGo_any (fun e => longD e.S) es 0
def rcB (n s : PV) : Bool := decide ((rcvR (nth s.A 0).S).2.2 = 0) && decide ((rcvR (nth s.A 0).S).2.1.1 = (nth s.A 0).S) && decide ((rcvR (nth s.A 0).S).2.1.2 = (nth s.A 1).I) && decide ((rcvR (nth s.A 0).S).1.t = (ndOf n.A).term) && decide ((rcvR (nth s.A 0).S).1.v = (ndOf n.A).vote) && eqL eqRow2 (rcvR (nth s.A 0).S).1.log (ndOf n.A).log
def atB (cnt : Int) (i : Nat) (n s : PV) : Bool := (nodeB (ndOf n.A) && decide ((ndOf n.A).id = i) && decide ((ndOf n.A).nodes = cnt) && stoB (nth s.A 0).S (nth s.A 1).I && decide ((nth s.A 1).I = (nth s.A 0).S.length)) && rcB n s
def nsB (cnt : Int) : Nat → List PV → List PV → Bool
  | i, n :: ns, s :: ss => atB cnt i n s && nsB cnt (i + 1) ns ss
  | _, _, _ => true
def cluB (ns ss ws ds : List PV) : Bool := (inB ns.length 1 5 && decide (ss.length = ns.length) && leB ws.length 60 && leB ds.length 60) && nsB ns.length 0 ns ss && (!ws.any (mgX ns.length) && !ds.any fun e => longD e.S)
theorem nd_eta (e : PV) : ndOf [.int .i64 (nth e.A 0).I, .int .i64 (nth e.A 1).I, .int .i64 (nth e.A 2).I, .int .i64 (nth e.A 3).I, .int .i64 (nth e.A 4).I, .bool (nth e.A 5).B, .list (nth e.A 6).L, .int .i64 (nth e.A 7).I, .int .i64 (nth e.A 8).I, .int .i64 (nth e.A 9).I, .list (nth e.A 10).L, .list (nth e.A 11).L, .list (nth e.A 12).L] = ndOf e.A := rfl
theorem at_a {cnt : Int} {i : Nat} {n s : PV} (h : (((nodeB (ndOf n.A) = false ∨ ¬ (nth n.A 0).I = i) ∨ ¬ (nth n.A 1).I = cnt) ∨ stoB (nth s.A 0).S (nth s.A 1).I = false) ∨ ¬ (nth s.A 1).I = (nth s.A 0).S.length) : atB cnt i n s = false := by
  have e : (nodeB (ndOf n.A) && decide ((ndOf n.A).id = i) && decide ((ndOf n.A).nodes = cnt) && stoB (nth s.A 0).S (nth s.A 1).I && decide ((nth s.A 1).I = (nth s.A 0).S.length)) = false := by
    rcases h with (((h | h) | h) | h) | h
    · rw [h]; simp
    · have : decide ((ndOf n.A).id = i) = false := decide_eq_false h
      rw [this]; simp
    · have : decide ((ndOf n.A).nodes = cnt) = false := decide_eq_false h
      rw [this]; simp
    · rw [h]; simp
    · rw [decide_eq_false h]; simp
  rw [atB, e, Bool.false_and]
theorem rc_a {n s : PV} (h : ((((¬ (rcvR (nth s.A 0).S).2.2 = 0 ∨ ¬ (rcvR (nth s.A 0).S).2.1.1 = (nth s.A 0).S ∨ ¬ (rcvR (nth s.A 0).S).2.1.2 = (nth s.A 1).I) ∨ ¬ (rcvR (nth s.A 0).S).1.t = (nth n.A 2).I) ∨ ¬ (rcvR (nth s.A 0).S).1.v = (nth n.A 3).I) ∨ eqL eqRow2 (rcvR (nth s.A 0).S).1.log (nth n.A 6).L = false)) : rcB n s = false := by
  unfold rcB
  rcases h with (((h | h | h) | h) | h) | h
  · rw [decide_eq_false h]; simp
  · rw [decide_eq_false h]; simp
  · rw [decide_eq_false h]; simp
  · have : decide ((rcvR (nth s.A 0).S).1.t = (ndOf n.A).term) = false := decide_eq_false h
    rw [this]; simp
  · have : decide ((rcvR (nth s.A 0).S).1.v = (ndOf n.A).vote) = false := decide_eq_false h
    rw [this]; simp
  · have : eqL eqRow2 (rcvR (nth s.A 0).S).1.log (ndOf n.A).log = false := h
    rw [this]; simp
theorem at_b {cnt : Int} {i : Nat} {n s : PV} (h1 : nodeB (ndOf n.A) = true) (h2 : (nth n.A 0).I = i) (h3 : (nth n.A 1).I = cnt) (h4 : stoB (nth s.A 0).S (nth s.A 1).I = true) (h5 : (nth s.A 1).I = (nth s.A 0).S.length) : atB cnt i n s = rcB n s := by
  have a2 : decide ((ndOf n.A).id = i) = true := decide_eq_true h2
  have a3 : decide ((ndOf n.A).nodes = cnt) = true := decide_eq_true h3
  rw [atB, h1, a2, a3, h4, decide_eq_true h5]; rfl
theorem rc_b {n s : PV} (h1 : (rcvR (nth s.A 0).S).2.2 = 0) (h2 : (rcvR (nth s.A 0).S).2.1.1 = (nth s.A 0).S) (h3 : (rcvR (nth s.A 0).S).2.1.2 = (nth s.A 1).I) (h4 : (rcvR (nth s.A 0).S).1.t = (nth n.A 2).I) (h5 : (rcvR (nth s.A 0).S).1.v = (nth n.A 3).I) (h6 : eqL eqRow2 (rcvR (nth s.A 0).S).1.log (nth n.A 6).L = true) : rcB n s = true := by
  have a4 : decide ((rcvR (nth s.A 0).S).1.t = (ndOf n.A).term) = true := decide_eq_true h4
  have a5 : decide ((rcvR (nth s.A 0).S).1.v = (ndOf n.A).vote) = true := decide_eq_true h5
  have a6 : eqL eqRow2 (rcvR (nth s.A 0).S).1.log (ndOf n.A).log = true := h6
  rw [rcB, decide_eq_true h1, decide_eq_true h2, decide_eq_true h3, a4, a5, a6]; rfl
theorem nsB_at {cnt : Int} {i : Nat} {ns ss : List PV} (h : i < ns.length) (h2 : i < ss.length) : nsB cnt i (ns.drop i) (ss.drop i) = (atB cnt i (nth ns i) (nth ss i) && nsB cnt (i + 1) (ns.drop (i + 1)) (ss.drop (i + 1))) := by
  rw [drop_nth h, drop_nth h2, nsB]
theorem clu_no {ns ss ws ds : List PV} (h : nsB ns.length 0 ns ss = false) : cluB ns ss ws ds = false := by rw [cluB, h]; simp
theorem clu_lim {ns ss ws ds : List PV} (h : ((inB ns.length 1 5 = false ∨ ¬ (ss.length : Int) = ns.length) ∨ 60 < (ws.length : Int)) ∨ 60 < (ds.length : Int)) : cluB ns ss ws ds = false := by
  have e : (inB ns.length 1 5 && decide (ss.length = ns.length) && leB ws.length 60 && leB ds.length 60) = false := by
    rcases h with ((h | h) | h) | h
    · rw [h]; simp
    · have : decide (ss.length = ns.length) = false := decide_eq_false (by omega)
      rw [this]; simp
    · have : leB ws.length 60 = false := by simp [leB]; omega
      rw [this]; simp
    · have : leB ds.length 60 = false := by simp [leB]; omega
      rw [this]; simp
  rw [cluB, e, Bool.false_and, Bool.false_and]
theorem clu_in {ns ss ws ds : List PV} (h1 : inB ns.length 1 5 = true) (h2 : (ss.length : Int) = ns.length) (h3 : (ws.length : Int) ≤ 60) (h4 : (ds.length : Int) ≤ 60) : cluB ns ss ws ds = (nsB ns.length 0 ns ss && (!ws.any (mgX ns.length) && !ds.any fun e => longD e.S)) := by
  have a2 : decide (ss.length = ns.length) = true := decide_eq_true (by omega)
  have a3 : leB ws.length 60 = true := by simp [leB]; omega
  have a4 : leB ds.length 60 = true := by simp [leB]; omega
  rw [cluB, h1, a2, a3, a4]; rfl
theorem any_dec {p : PV → Bool} {es : List PV} : decide (∀ x : PV, x ∈ es → p x = false) = !es.any p := by
  rw [Bool.eq_iff_iff]; simp
def c_isCluster : FSpec := ⟨[(.rd, .agg [.list (.agg [.int .i64, .int .i64, .int .i64, .int .i64, .int .i64, .bool, .list (.agg [.int .i64, .str]), .int .i64, .int .i64, .int .i64, .list (.int .i64), .list (.int .i64), .list (.int .i64)]), .list (.agg [.str, .int .i64]), .list (.agg [.int .i64, .int .i64, .int .i64, .int .i64, .int .i64, .int .i64, .int .i64, .bool, .list (.agg [.int .i64, .str])]), .list .str])], [.bool], true, fun _ => True, fun ps => [.bool (cluB (nth (nth ps 0).A 0).L (nth (nth ps 0).A 1).L (nth (nth ps 0).A 2).L (nth (nth ps 0).A 3).L)], fun _ => []⟩
theorem k_isCluster : FnOk Tryz.prog 112 c_isCluster := by
  refine fn_mk [0, 1, 2, 3, 4, 5, 6, 7, 8, 9, 36, 37, 38] [.tmp 2] (env_cons (cs := [163]) k_ContainsFunc_isCluster2 (env_cons (cs := [161]) k_ContainsFunc_isCluster1 (env_cons (cs := []) k_EqualE (env_cons (cs := []) k_recovered (env_cons (cs := []) k_isStore (env_cons (cs := []) k_isNode (env_cons (cs := []) k_within (env_nil (tyTab_ok []))))))))) mixed Tryz.func112 rfl (by decide) rfl (by decide) rfl ?_
  intro ps hT hpre W hW
  simp only [c_isCluster, TyA, Ty, Tys] at hT hpre
  obtain ⟨_, _, rfl, ⟨_, rfl, _, _, rfl, ⟨ns, rfl, hns, tns⟩, _, _, rfl, ⟨ss, rfl, hss, tss⟩, _, _, rfl, ⟨ws, rfl, hws, tws⟩, _, _, rfl, ⟨ds, rfl, hds, tds⟩, rfl⟩, rfl⟩ := hT
  refine hW.vc [] _ _ ?_
  simp [-List.getD_eq_getElem?_getD, c_isCluster, c_within, c_isNode, c_isStore, c_recovered, c_EqualE, c_ContainsFunc_isCluster1, c_ContainsFunc_isCluster2]
  refine fun _ _ _ _ => ⟨fun h1 => clu_lim h1, fun h1 h2 h3 h4 _ => ?_⟩
  have hC := clu_in h1 h2 h3 h4
  refine hW.loopS _ _ _ [.sl 38 .dp (.int .i64)] (fun ys => ∃ i : Nat, ys = [.int .i64 i] ∧ i ≤ ns.length ∧ nsB ns.length 0 ns ss = nsB ns.length i (ns.drop i) (ss.drop i)) (fun ys => ns.length - (nth ys 0).I.toNat) ?_ ?_
  · simp [-List.getD_eq_getElem?_getD, c_isCluster, c_within, c_isNode, c_isStore, c_recovered, c_EqualE, c_ContainsFunc_isCluster1, c_ContainsFunc_isCluster2]
    exact ⟨0, rfl, by simp, by simp⟩
  · rintro ys ⟨i, rfl, h5, h6⟩
    refine hW.vc [] _ _ ?_
    simp [-List.getD_eq_getElem?_getD, c_isCluster, c_within, c_isNode, c_isStore, c_recovered, c_EqualE, c_ContainsFunc_isCluster1, c_ContainsFunc_isCluster2, nd_eta]
    refine ⟨fun h7 => ⟨h7, ?_⟩, fun h7 => ?_⟩
    · have h8 : i < ss.length := by omega
      rw [nsB_at h7 h8] at h6
      intros
      refine ⟨h8, ?_⟩
      intros
      refine ⟨fun q => clu_no (by rw [h6, at_a q, Bool.false_and]), fun q1 q2 q3 q4 q5 => ?_⟩
      rw [at_b q1 q2 q3 q4 q5] at h6
      have hl : (nth (nth ss i).A 0).S.length ≤ 60000 := by
        simp only [stoB, Bool.and_eq_true, leB, decide_eq_true_eq] at q4
        omega
      refine ⟨by omega, fun q => ⟨q, by decide +kernel⟩, fun q => clu_no (by rw [h6, rc_a q, Bool.false_and]), fun r1 r2 r3 r4 r5 r6 => ?_⟩
      rw [rc_b r1 r2 r3 r4 r5 r6, Bool.true_and] at h6
      rw [wrap64 (by omega)]
      exact ⟨⟨i + 1, by omega, by omega, h6⟩, by omega⟩
    · rw [List.drop_eq_nil_of_le h7] at h6
      rw [hC, h6, any_dec]
      rfl
theorem at_c {cnt : Int} {i : Nat} {n s : PV} (h : (((¬ (nth n.A 0).I = i ∨ ¬ (nth n.A 1).I = cnt) ∨ nodeB (ndOf n.A) = false) ∨ stoB (nth s.A 0).S (nth s.A 1).I = false) ∨ ¬ (nth s.A 1).I = (nth s.A 0).S.length) : atB cnt i n s = false := by
  refine at_a ?_
  rcases h with (((h | h) | h) | h) | h
  · exact .inl (.inl (.inl (.inr h)))
  · exact .inl (.inl (.inr h))
  · exact .inl (.inl (.inl (.inl h)))
  · exact .inl (.inr h)
  · exact .inr h
theorem rc_take {b : List UInt8} (h : (rcvR b).2.2 = 0) (h2 : (rcvR b).2.1.2 = b.length) : (rcvR b).2.1.1 = b := by
  unfold rcvR at h h2 ⊢
  split at h
  · simp at h
  · rename_i h8
    rw [if_neg h8] at h2 ⊢
    split at h
    · rename_i h9
      rw [if_pos h9] at h2 ⊢
      simp only at h2 ⊢
      exact List.take_of_length_le (by omega)
    · simp at h
theorem rc_s {n s : PV} (h5 : (nth s.A 1).I = (nth s.A 0).S.length) (h : (¬ (rcvS (nth s.A 0).S (nth s.A 1).I).2.2 = 0 ∨ ¬ (rcvS (nth s.A 0).S (nth s.A 1).I).2.1.2 = (nth s.A 1).I) ∨ (decide ((rcvS (nth s.A 0).S (nth s.A 1).I).1.t = (nth n.A 2).I) = false ∨ decide ((rcvS (nth s.A 0).S (nth s.A 1).I).1.v = (nth n.A 3).I) = false) ∨ eqL eqRow2 (rcvS (nth s.A 0).S (nth s.A 1).I).1.log (nth n.A 6).L = false) : rcB n s = false := by
  by_cases hc : (rcvR (nth s.A 0).S).2.2 = 0
  · rw [rcv_S _ hc] at h
    refine rc_a ?_
    rcases h with (h | h) | (h | h) | h
    · exact .inl (.inl (.inl (.inl h)))
    · exact .inl (.inl (.inl (.inr (.inr h))))
    · exact .inl (.inl (.inr (of_decide_eq_false h)))
    · exact .inl (.inr (of_decide_eq_false h))
    · exact .inr h
  · exact rc_a (.inl (.inl (.inl (.inl hc))))
theorem rc_t {n s : PV} (h5 : (nth s.A 1).I = (nth s.A 0).S.length) (h1 : (rcvS (nth s.A 0).S (nth s.A 1).I).2.2 = 0) (h2 : (rcvS (nth s.A 0).S (nth s.A 1).I).2.1.2 = (nth s.A 1).I) (h3 : decide ((rcvS (nth s.A 0).S (nth s.A 1).I).1.t = (nth n.A 2).I) = true) (h4 : decide ((rcvS (nth s.A 0).S (nth s.A 1).I).1.v = (nth n.A 3).I) = true) (h6 : eqL eqRow2 (rcvS (nth s.A 0).S (nth s.A 1).I).1.log (nth n.A 6).L = true) : rcB n s = true := by
  have hc : (rcvR (nth s.A 0).S).2.2 = 0 := by rw [rcv_S_ne] at h1; exact h1
  rw [rcv_S _ hc] at h2 h3 h4 h6
  exact rc_b hc (rc_take hc (by rw [h2, h5])) h2 (of_decide_eq_true h3) (of_decide_eq_true h4) h6
end Go.Proofs.YtkofjkjcbljkdaaGreatDoor
end

section
namespace Go.Proofs.YtkofjkjcbljkdaaGreatDoor
variable [LaidG]
set_option maxRecDepth 100000
set_option linter.unusedSimpArgs false
theorem mg_eta (e : PV) : mgOf [.int .i64 (nth e.A 0).I, .int .i64 (nth e.A 1).I, .int .i64 (nth e.A 2).I, .int .i64 (nth e.A 3).I, .int .i64 (nth e.A 4).I, .int .i64 (nth e.A 5).I, .int .i64 (nth e.A 6).I, .bool (nth e.A 7).B, .list (nth e.A 8).L] = mgOf e.A := rfl
theorem mgX_no {n : Int} {e : PV} (h : (mgB (mgOf e.A) = false ∨ n ≤ (nth e.A 2).I) ∨ n ≤ (nth e.A 1).I) : mgX n e = true := by
  unfold mgX
  rcases h with (h | h) | h
  · simp [h]
  · have : decide (n ≤ (mgOf e.A).to) = true := decide_eq_true h
    simp [this]
  · have : decide (n ≤ (mgOf e.A).frm) = true := decide_eq_true h
    simp [this]
theorem mgX_yes {n : Int} {e : PV} (h1 : mgB (mgOf e.A) = true) (h2 : (nth e.A 2).I < n) (h3 : (nth e.A 1).I < n) : mgX n e = false := by
  have a2 : decide (n ≤ (mgOf e.A).to) = false := decide_eq_false (by show ¬ n ≤ (nth e.A 2).I; omega)
  have a3 : decide (n ≤ (mgOf e.A).frm) = false := decide_eq_false (by show ¬ n ≤ (nth e.A 1).I; omega)
  simp [mgX, h1, a2, a3]
theorem wire_no {b y r d : Bool} {n : Int} {e : PV} (hC : b = (!y && d)) (k : y = (mgX n e || r)) (h : (mgB (mgOf e.A) = false ∨ n ≤ (nth e.A 2).I) ∨ n ≤ (nth e.A 1).I) : b = false := by
  rw [hC, k, mgX_no h]; rfl
theorem wire_go {y r : Bool} {n : Int} {e : PV} (k : y = (mgX n e || r)) (h1 : mgB (mgOf e.A) = true) (h2 : (nth e.A 2).I < n) (h3 : (nth e.A 1).I < n) : y = r := by
  rw [k, mgX_yes h1 h2 h3]; rfl
theorem done_no {b y z r : Bool} {e : PV} (hC : b = (!y && !z)) (k : z = (longD e.S || r)) (h : 400 < (e.S.length : Int)) : b = false := by
  have : longD e.S = true := decide_eq_true (by omega)
  rw [hC, k, this]; simp
theorem done_go {z r : Bool} {e : PV} (k : z = (longD e.S || r)) (h : (e.S.length : Int) ≤ 400) : z = r := by
  have : longD e.S = false := decide_eq_false (by omega)
  rw [k, this]; rfl
theorem at_d {cnt : Int} {i : Nat} {n s : PV} (h : (nth n.A 0).I = i → ¬ (nth n.A 1).I = cnt) : atB cnt i n s = false := by
  by_cases q : (nth n.A 0).I = i
  · exact at_c (.inl (.inl (.inl (.inr (h q)))))
  · exact at_c (.inl (.inl (.inl (.inl q))))
theorem rc_u {n s : PV} (h5 : (nth s.A 1).I = (nth s.A 0).S.length) (h : (rcvS (nth s.A 0).S (nth s.A 1).I).2.2 = 0 → ¬ (rcvS (nth s.A 0).S (nth s.A 1).I).2.1.2 = (nth s.A 1).I) : rcB n s = false := by
  by_cases q : (rcvS (nth s.A 0).S (nth s.A 1).I).2.2 = 0
  · exact rc_s h5 (.inl (.inr (h q)))
  · exact rc_s h5 (.inl (.inl q))
def c_ClusterOK : FSpec := c_isCluster
set_option maxHeartbeats 0 in
theorem k_ClusterOK : FnOk Tryz.prog 55 c_ClusterOK := by
  refine fn_mk [0, 1, 2, 3, 4, 5, 6, 7, 8, 9, 10] [.tmp 2] (env_cons (cs := []) k_sMessageOK (env_cons (cs := []) k_l09Same (env_cons (cs := []) k_l08State (env_cons (cs := []) k_l07Recover (env_cons (cs := []) k_StoreOK (env_cons (cs := []) k_sNodeOK (env_cons (cs := []) k_l08Nodes (env_nil (tyTab_ok []))))))))) mixed Tryz.func55 rfl (by decide) rfl (by decide) rfl ?_
  intro ps hT hpre W hW
  simp only [c_ClusterOK, TyA, Ty, Tys] at hT hpre
  simp only [c_isCluster, TyA, Ty, Tys] at hT
  obtain ⟨_, _, rfl, ⟨_, rfl, _, _, rfl, ⟨ns, rfl, hns, tns⟩, _, _, rfl, ⟨ss, rfl, hss, tss⟩, _, _, rfl, ⟨ws, rfl, hws, tws⟩, _, _, rfl, ⟨ds, rfl, hds, tds⟩, rfl⟩, rfl⟩ := hT
  refine hW.vc [(7, [], .take 0 <| .take 1 <| .take 2 <| .take 3 <| .take 4 <| .take 5 <| .take 6 <| .take 7 <| .take 8 <| .take 9 <| .take 10 <| .take 11 <| .take 12 <| .take 13 <| .take 14 <| .take 15 <| .take 16 <| .take 17 <| .take 18 <| .take 19 <| .take 20 <| .take 21 <| .take 22 <| .take 23 <| .alt 24 (.take 25 <| .take 26 <| .take 27 <| .take 28 <| .take 29 <| .take 30 <| .take 31 <| .take 32 <| .alt 33 (.take 34 <| .take 35 <| .take 36 <| .take 37 <| .take 38 <| .take 39 <| .take 40 <| .take 41 <| .take 42 <| .take 43 <| .take 44 <| .take 45 <| .take 46 <| .take 47 <| .take 48 <| .take 49 <| .take 50 <| .take 51 <| .done) .stop) .stop), (10, [], .take 0 <| .take 1 <| .take 2 <| .take 3 <| .take 4 <| .take 5 <| .take 6 <| .take 7 <| .take 8 <| .take 9 <| .take 10 <| .take 11 <| .take 12 <| .take 13 <| .take 14 <| .take 15 <| .take 16 <| .take 17 <| .take 18 <| .take 19 <| .alt 20 (.alt 21 (.take 22 <| .take 23 <| .done) .stop) .stop)] _ _ ?_
  simp [-List.getD_eq_getElem?_getD, c_ClusterOK, c_l08Nodes, c_sNodeOK, c_StoreOK, c_l07Recover, c_l08State, c_l09Same, c_sMessageOK, c_isCluster, c_isNode, c_isStore, c_isMessage, c_within, c_isCluster, c_isNode, c_isStore, c_isMessage]
  refine fun _ _ _ _ => ⟨fun h1 => clu_lim h1, fun h1 h2 h3 h4 => ?_⟩
  have hC := clu_in h1 h2 h3 h4
  refine hW.loopS _ _ _ [.sl 4 .dp (.int .i64)] (fun ys => ∃ i : Nat, ys = [.int .i64 i] ∧ i ≤ ns.length ∧ nsB ns.length 0 ns ss = nsB ns.length i (ns.drop i) (ss.drop i)) (fun ys => ns.length - (nth ys 0).I.toNat) ?_ ?_
  · simp [-List.getD_eq_getElem?_getD, c_ClusterOK, c_l08Nodes, c_sNodeOK, c_StoreOK, c_l07Recover, c_l08State, c_l09Same, c_sMessageOK, c_isCluster, c_isNode, c_isStore, c_isMessage]
    exact ⟨0, rfl, by simp, by simp⟩
  · rintro ys ⟨i, rfl, h5, h6⟩
    refine hW.vc [(7, [], .take 0 <| .take 1 <| .take 2 <| .take 3 <| .take 4 <| .take 5 <| .take 6 <| .take 7 <| .take 8 <| .take 9 <| .take 10 <| .take 11 <| .take 12 <| .take 13 <| .take 14 <| .take 15 <| .take 16 <| .take 17 <| .take 18 <| .take 19 <| .take 20 <| .take 21 <| .take 22 <| .take 23 <| .alt 24 (.take 25 <| .take 26 <| .take 27 <| .take 28 <| .take 29 <| .take 30 <| .take 31 <| .take 32 <| .alt 33 (.take 34 <| .take 35 <| .take 36 <| .take 37 <| .take 38 <| .take 39 <| .take 40 <| .take 41 <| .take 42 <| .take 43 <| .take 44 <| .take 45 <| .take 46 <| .take 47 <| .take 48 <| .take 49 <| .take 50 <| .take 51 <| .done) .stop) .stop), (10, [], .take 0 <| .take 1 <| .take 2 <| .take 3 <| .take 4 <| .take 5 <| .take 6 <| .take 7 <| .take 8 <| .take 9 <| .take 10 <| .take 11 <| .take 12 <| .take 13 <| .take 14 <| .take 15 <| .take 16 <| .take 17 <| .take 18 <| .take 19 <| .alt 20 (.alt 21 (.take 22 <| .take 23 <| .done) .stop) .stop)] _ _ ?_
    simp [-List.getD_eq_getElem?_getD, c_ClusterOK, c_l08Nodes, c_sNodeOK, c_StoreOK, c_l07Recover, c_l08State, c_l09Same, c_sMessageOK, c_isCluster, c_isNode, c_isStore, c_isMessage, nd_eta, c_within, c_isCluster, c_isNode, c_isStore, c_isMessage]
    refine ⟨fun h7 => ?_, fun h7 => ?_⟩
    · have h8 : i < ss.length := by omega
      rw [nsB_at h7 h8] at h6
      clear hW
      repeat' (first | apply And.intro | intro _)
      all_goals first
        | omega
        | decide +kernel
        | assumption
        | exact clu_no (by rw [h6, at_c (by assumption), Bool.false_and])
        | exact clu_no (by rw [h6, at_d (by assumption), Bool.false_and])
        | exact clu_no (by rw [h6, at_b (by assumption) (by assumption) (by assumption) (by assumption) (by assumption), rc_u (by assumption) (by assumption), Bool.false_and])
        | (have hq : stoB (nth (nth ss i).A 0).S (nth (nth ss i).A 1).I = true := by assumption
           simp only [stoB, Bool.and_eq_true, leB, decide_eq_true_eq] at hq
           omega)
        | exact clu_no (by rw [h6, at_b (by assumption) (by assumption) (by assumption) (by assumption) (by assumption), rc_s (by assumption) (by assumption), Bool.false_and])
        | (rw [at_b (by assumption) (by assumption) (by assumption) (by assumption) (by assumption), rc_t (by assumption) (by assumption) (by assumption) (by assumption) (by assumption) (by assumption), Bool.true_and] at h6
           rw [wrap64 (by omega)]
           exact ⟨i + 1, by omega, by omega, h6⟩)
        | (rw [wrap64 (by omega)]; omega)
        | trace_state
    · rw [List.drop_eq_nil_of_le h7] at h6
      have h6 : nsB ns.length 0 ns ss = true := h6
      rw [h6, Bool.true_and] at hC
      refine hW.loopS _ _ _ [.sl 8 .dp (.int .i64)] (fun ys => ∃ j : Nat, ys = [.int .i64 j] ∧ j ≤ ws.length ∧ ws.any (mgX ns.length) = (ws.drop j).any (mgX ns.length)) (fun ys => ws.length - (nth ys 0).I.toNat) ?_ ?_
      · simp [-List.getD_eq_getElem?_getD, c_ClusterOK, c_l08Nodes, c_sNodeOK, c_StoreOK, c_l07Recover, c_l08State, c_l09Same, c_sMessageOK, c_isCluster, c_isNode, c_isStore, c_isMessage]
        exact ⟨0, rfl, by simp, by simp⟩
      · rintro ys ⟨j, rfl, k1, k2⟩
        refine hW.vc [(7, [], .take 0 <| .take 1 <| .take 2 <| .take 3 <| .take 4 <| .take 5 <| .take 6 <| .take 7 <| .take 8 <| .take 9 <| .take 10 <| .take 11 <| .take 12 <| .take 13 <| .take 14 <| .take 15 <| .take 16 <| .take 17 <| .take 18 <| .take 19 <| .take 20 <| .take 21 <| .take 22 <| .take 23 <| .alt 24 (.take 25 <| .take 26 <| .take 27 <| .take 28 <| .take 29 <| .take 30 <| .take 31 <| .take 32 <| .alt 33 (.take 34 <| .take 35 <| .take 36 <| .take 37 <| .take 38 <| .take 39 <| .take 40 <| .take 41 <| .take 42 <| .take 43 <| .take 44 <| .take 45 <| .take 46 <| .take 47 <| .take 48 <| .take 49 <| .take 50 <| .take 51 <| .done) .stop) .stop), (10, [], .take 0 <| .take 1 <| .take 2 <| .take 3 <| .take 4 <| .take 5 <| .take 6 <| .take 7 <| .take 8 <| .take 9 <| .take 10 <| .take 11 <| .take 12 <| .take 13 <| .take 14 <| .take 15 <| .take 16 <| .take 17 <| .take 18 <| .take 19 <| .alt 20 (.alt 21 (.take 22 <| .take 23 <| .done) .stop) .stop)] _ _ ?_
        simp [-List.getD_eq_getElem?_getD, c_ClusterOK, c_l08Nodes, c_sNodeOK, c_StoreOK, c_l07Recover, c_l08State, c_l09Same, c_sMessageOK, c_isCluster, c_isNode, c_isStore, c_isMessage, c_within, c_isCluster, c_isNode, c_isStore, c_isMessage, mg_eta]
        refine fun _ => ⟨fun k3 => ?_, fun k3 => ?_⟩
        · clear hW
          rw [drop_nth k3, List.any_cons] at k2
          repeat' (first | apply And.intro | intro _)
          all_goals first
            | omega
            | decide +kernel
            | assumption
            | exact wire_no hC k2 (by assumption)
            | (rw [wrap64 (by omega)]
               exact ⟨j + 1, by omega, by omega, wire_go k2 (by assumption) (by assumption) (by assumption)⟩)
            | (rw [wrap64 (by omega)]; omega)
            | trace_state
        · refine hW.loopS _ _ _ [.sl 10 .dp (.int .i64)] (fun ys => ∃ j : Nat, ys = [.int .i64 j] ∧ j ≤ ds.length ∧ (ds.any fun e => longD e.S) = (ds.drop j).any fun e => longD e.S) (fun ys => ds.length - (nth ys 0).I.toNat) ?_ ?_
          · simp [-List.getD_eq_getElem?_getD, c_ClusterOK, c_l08Nodes, c_sNodeOK, c_StoreOK, c_l07Recover, c_l08State, c_l09Same, c_sMessageOK, c_isCluster, c_isNode, c_isStore, c_isMessage]
            exact ⟨0, rfl, by simp, by simp⟩
          · rintro ys ⟨j', rfl, k4, k5⟩
            refine hW.vc [(7, [], .take 0 <| .take 1 <| .take 2 <| .take 3 <| .take 4 <| .take 5 <| .take 6 <| .take 7 <| .take 8 <| .take 9 <| .take 10 <| .take 11 <| .take 12 <| .take 13 <| .take 14 <| .take 15 <| .take 16 <| .take 17 <| .take 18 <| .take 19 <| .take 20 <| .take 21 <| .take 22 <| .take 23 <| .alt 24 (.take 25 <| .take 26 <| .take 27 <| .take 28 <| .take 29 <| .take 30 <| .take 31 <| .take 32 <| .alt 33 (.take 34 <| .take 35 <| .take 36 <| .take 37 <| .take 38 <| .take 39 <| .take 40 <| .take 41 <| .take 42 <| .take 43 <| .take 44 <| .take 45 <| .take 46 <| .take 47 <| .take 48 <| .take 49 <| .take 50 <| .take 51 <| .done) .stop) .stop), (10, [], .take 0 <| .take 1 <| .take 2 <| .take 3 <| .take 4 <| .take 5 <| .take 6 <| .take 7 <| .take 8 <| .take 9 <| .take 10 <| .take 11 <| .take 12 <| .take 13 <| .take 14 <| .take 15 <| .take 16 <| .take 17 <| .take 18 <| .take 19 <| .alt 20 (.alt 21 (.take 22 <| .take 23 <| .done) .stop) .stop)] _ _ ?_
            simp [-List.getD_eq_getElem?_getD, c_ClusterOK, c_l08Nodes, c_sNodeOK, c_StoreOK, c_l07Recover, c_l08State, c_l09Same, c_sMessageOK, c_isCluster, c_isNode, c_isStore, c_isMessage, c_within, c_isCluster, c_isNode, c_isStore, c_isMessage]
            clear hW
            rw [List.drop_eq_nil_of_le k3] at k2
            refine fun _ => ⟨fun k6 => ?_, fun k6 => ?_⟩
            · rw [drop_nth k6, List.any_cons] at k5
              repeat' (first | apply And.intro | intro _)
              all_goals first
                | omega
                | decide +kernel
                | assumption
                | exact done_no hC k5 (by assumption)
                | (rw [wrap64 (by omega)]
                   exact ⟨j' + 1, by omega, by omega, done_go k5 (by assumption)⟩)
                | (rw [wrap64 (by omega)]; omega)
                | trace_state
            · rw [List.drop_eq_nil_of_le k6] at k5
              rw [hC, k2, k5]; rfl
end Go.Proofs.YtkofjkjcbljkdaaGreatDoor
end

section
namespace Go.Proofs.YtkofjkjcbljkdaaGreatDoor
variable [LaidG]
set_option maxRecDepth 100000
set_option linter.unusedSimpArgs false
theorem eqS_refl (es : List PV) : eqL (fun x y => x.S == y.S) es es = true := eqL_refl fun _ => by simp
end Go.Proofs.YtkofjkjcbljkdaaGreatDoor
end

section
namespace Go.Proofs.YtkofjkjcbljkdaaGreatDoor
variable [LaidG]
set_option maxRecDepth 100000
set_option linter.unusedSimpArgs false
structure MR where
  n : Int
  w : Int
  h : Int
  r : List PV
def MR.pv (m : MR) : PV := .agg [.int .i64 m.n, .int .i64 m.w, .int .i64 m.h, .list m.r]
def MR.no : MR := ⟨0, 0, 0, []⟩
def MR.ls (m : MR) : List PV := [.int .i64 m.n, .int .i64 m.w, .int .i64 m.h, .list m.r]
def VW.ls (v : VW) : List PV := [.int .i64 v.n, .int .i64 v.f, .bool v.u, .int .i64 v.w, .int .i64 v.h, .list v.r]
theorem eqMir_refl (v : List PV) : eqMir v v = true := by simp [eqMir, eqS_refl]
end Go.Proofs.YtkofjkjcbljkdaaGreatDoor
end

section
namespace Go.Proofs.YtkofjkjcbljkdaaGreatDoor
variable [LaidG]
set_option maxRecDepth 100000
set_option linter.unusedSimpArgs false
def szC2 (l : Int) (a b : Nat) (es : List PV) : Int := if l - a < 0 then -1 else if l - a - b < 0 then -1 else szStr es (l - a - b)
def szCli (c : List PV) (l : Int) : Int := szC2 l (nth c 1).S.length (nth c 2).S.length (nth c 6).L
theorem szC2_le {l : Int} {a b : Nat} {es : List PV} (h : 0 ≤ l) : szC2 l a b es ≤ l ∧ -1 ≤ szC2 l a b es ∧ (0 ≤ szC2 l a b es → (es.length : Int) ≤ l ∧ (a : Int) ≤ l ∧ (b : Int) ≤ l) := by
  unfold szC2
  split
  · omega
  · split
    · omega
    · have := szStr_le (es := es) (l := l - a - b) (by omega)
      omega
def c_szClient : FSpec := ⟨[(.rd, .agg [.int .i64, .str, .str, .int .i64, .int .i64, .int .i64, .list .str]), (.rd, .int .i64)], [.int .i64], true, fun ps => 0 ≤ (nth ps 1).I, fun ps => [.int .i64 (szCli (nth ps 0).A (nth ps 1).I)], fun _ => []⟩
theorem k_szClient : FnOk Tryz.prog 98 c_szClient := by
  refine fn_mk [0, 1, 2, 4] [.tmp 4] (env_cons (cs := []) k_szMirror (env_nil (tyTab_ok []))) mixed Tryz.func98 rfl (by decide) rfl (by decide) rfl ?_
  intro ps hT hpre W hW
  simp only [c_szClient, TyA, Ty, Tys] at hT hpre
  obtain ⟨_, _, rfl, ⟨_, rfl, _, _, rfl, ⟨c, rfl, hc⟩, _, _, rfl, ⟨t, rfl, ht⟩, _, _, rfl, ⟨k, rfl, hk⟩, _, _, rfl, ⟨n, rfl, hn⟩, _, _, rfl, ⟨w, rfl, hw⟩, _, _, rfl, ⟨h, rfl, hh⟩, _, _, rfl, ⟨rs, rfl, hrs, trs⟩, rfl⟩, _, _, rfl, ⟨l, rfl, hl⟩, rfl⟩ := hT
  simp only [nth_zero, nth_succ, pv_I] at hpre
  refine hW.vc [] _ _ ?_
  simp [-List.getD_eq_getElem?_getD, c_szClient, c_szMirror]
  intro ht
  have hl2 : l ≤ 9223372036854775807 := hl.2
  rw [wrap64 (n := l - t.length) (by omega)]
  simp only [szCli, nth_zero, nth_succ, pv_S, pv_L]
  simp only [szC2]
  refine ⟨fun h1 => by rw [if_pos h1], fun h1 hk => ?_⟩
  rw [wrap64 (n := l - t.length - k.length) (by omega), if_neg (by omega)]
  refine ⟨fun h2 => by rw [if_pos h2], fun h2 => ?_⟩
  rw [if_neg (by omega)]
  have h3 := szStr_le (es := rs) h2
  exact ⟨h2, fun h4 => by omega, fun _ => rfl⟩
def c_toClient : FSpec := ⟨[(.rd, .agg [.int .i64, .str, .str, .int .i64, .int .i64, .int .i64, .list .str])], [.agg [.int .i64, .str, .str, .int .i64, .int .i64, .int .i64, .list .str]], true, fun ps => (nth (nth ps 0).A 6).L.length ≤ 1048576, fun ps => [nth ps 0], fun _ => []⟩
theorem k_toClient : FnOk Tryz.prog 111 c_toClient := by
  refine fn_mk [0, 1, 2, 3] [.cell 2 91] (env_cons (cs := []) k_toMirror (env_nil (tyTab_ok []))) mixed Tryz.func111 rfl (by decide) rfl (by decide) rfl ?_
  intro ps hT hpre W hW
  simp only [c_toClient, TyA, Ty, Tys] at hT hpre
  obtain ⟨_, _, rfl, ⟨_, rfl, _, _, rfl, ⟨c, rfl, hc⟩, _, _, rfl, ⟨t, rfl, ht⟩, _, _, rfl, ⟨k, rfl, hk⟩, _, _, rfl, ⟨n, rfl, hn⟩, _, _, rfl, ⟨w, rfl, hw⟩, _, _, rfl, ⟨h, rfl, hh⟩, _, _, rfl, ⟨rs, rfl, hrs, trs⟩, rfl⟩, rfl⟩ := hT
  simp only [nth_zero, nth_succ, pv_A, pv_L] at hpre
  refine hW.vc [] _ _ ?_
  simp [-List.getD_eq_getElem?_getD, c_toClient, c_toMirror]
  exact hpre
def eqCli (a b : List PV) : Bool := (nth a 0).I == (nth b 0).I && (nth a 1).S == (nth b 1).S && (nth a 2).S == (nth b 2).S && eqMir [nth a 3, nth a 4, nth a 5, nth a 6] [nth b 3, nth b 4, nth b 5, nth b 6]
theorem eqCli_refl (a : List PV) : eqCli a a = true := by simp [eqCli, eqMir_refl]
def c_eqClient : FSpec := ⟨[(.rd, .agg [.int .i64, .str, .str, .int .i64, .int .i64, .int .i64, .list .str]), (.rd, .agg [.int .i64, .str, .str, .int .i64, .int .i64, .int .i64, .list .str])], [.bool], true, fun _ => True, fun ps => [.bool (eqCli (nth ps 0).A (nth ps 1).A)], fun _ => []⟩
theorem k_eqClient : FnOk Tryz.prog 84 c_eqClient := by
  refine fn_mk [0, 1, 2, 3, 4] [.tmp 4] (env_cons (cs := []) k_eqMirror (env_nil (tyTab_ok []))) mixed Tryz.func84 rfl (by decide) rfl (by decide) rfl ?_
  intro ps hT hpre W hW
  simp only [c_eqClient, TyA, Ty, Tys] at hT hpre
  obtain ⟨_, _, rfl, ⟨_, rfl, _, _, rfl, ⟨c, rfl, hc⟩, _, _, rfl, ⟨t, rfl, ht⟩, _, _, rfl, ⟨k, rfl, hk⟩, _, _, rfl, ⟨n, rfl, hn⟩, _, _, rfl, ⟨w, rfl, hw⟩, _, _, rfl, ⟨h, rfl, hh⟩, _, _, rfl, ⟨rs, rfl, hrs, trs⟩, rfl⟩, _, _, rfl, ⟨_, rfl, _, _, rfl, ⟨c', rfl, hc'⟩, _, _, rfl, ⟨t', rfl, ht'⟩, _, _, rfl, ⟨k', rfl, hk'⟩, _, _, rfl, ⟨n', rfl, hn'⟩, _, _, rfl, ⟨w', rfl, hw'⟩, _, _, rfl, ⟨h', rfl, hh'⟩, _, _, rfl, ⟨rs', rfl, hrs', trs'⟩, rfl⟩, rfl⟩ := hT
  refine hW.vc [] _ _ ?_
  simp [-List.getD_eq_getElem?_getD, c_eqClient, c_eqMirror]
  simp only [eqCli, nth_zero, nth_succ, pv_I, pv_S]
  exact ⟨fun q1 => by simp [q1], fun q1 => ⟨fun q2 => by simp [q2], fun q2 => ⟨fun q3 => by simp [q3], fun q3 => ⟨fun q4 => by simp [q4], fun q4 => by simp [q1, q2, q3, q4]⟩⟩⟩⟩
end Go.Proofs.YtkofjkjcbljkdaaGreatDoor
end

section
namespace Go.Proofs.YtkofjkjcbljkdaaGreatDoor
variable [LaidG]
set_option maxRecDepth 100000
set_option linter.unusedSimpArgs false
def eqNd2 (a b : PV) : Bool := eqNd a.A b.A
theorem eqNds_refl (es : List PV) : eqL eqNd2 es es = true := eqL_refl fun _ => eqNd_refl _
def c_eqNodeS : FSpec := ⟨[(.rd, .list (.agg [.int .i64, .int .i64, .int .i64, .int .i64, .int .i64, .bool, .list (.agg [.int .i64, .str]), .int .i64, .int .i64, .int .i64, .list (.int .i64), .list (.int .i64), .list (.int .i64)])), (.rd, .list (.agg [.int .i64, .int .i64, .int .i64, .int .i64, .int .i64, .bool, .list (.agg [.int .i64, .str]), .int .i64, .int .i64, .int .i64, .list (.int .i64), .list (.int .i64), .list (.int .i64)]))], [.bool], true, fun _ => True, fun ps => [.bool (eqL eqNd2 (nth ps 0).L (nth ps 1).L)], fun _ => []⟩
theorem k_eqNodeS : FnOk Tryz.prog 80 c_eqNodeS := by
  refine fn_mk [0, 1, 4, 5] [.tmp 4] (env_cons (cs := []) k_eqNode (env_nil (tyTab_ok []))) mixed Tryz.func80 rfl (by decide) rfl (by decide) rfl ?_
  intro ps hT hpre W hW
  simp only [c_eqNodeS, TyA, Ty, Tys] at hT hpre
  obtain ⟨_, _, rfl, ⟨es, rfl, hes, tes⟩, _, _, rfl, ⟨es2, rfl, hes2, tes2⟩, rfl⟩ := hT
  refine hW.vc [(6, [], .take 0 <| .take 1 <| .take 2 <| .take 3 <| .take 4 <| .take 5 <| .take 6 <| .take 7 <| .alt 8 (.take 9 <| .done) .stop)] _ _ ?_
  simp [-List.getD_eq_getElem?_getD, c_eqNodeS, c_eqNode]
  refine fun h1 h2 => ⟨fun h3 => eqL_len (by omega), fun h3 => ?_⟩
  refine hW.loopS _ _ _ [.sl 5 .dp (.int .i64)] (fun ys => ∃ i : Nat, ys = [.int .i64 i] ∧ i ≤ es.length ∧ eqL eqNd2 es es2 = eqL eqNd2 (es.drop i) (es2.drop i)) (fun ys => es.length - (nth ys 0).I.toNat) ?_ ?_
  · simp [-List.getD_eq_getElem?_getD, c_eqNodeS, c_eqNode]
    exact ⟨0, rfl, by simp, by simp⟩
  · rintro ys ⟨i, rfl, h4, h5⟩
    refine hW.vc [(6, [], .take 0 <| .take 1 <| .take 2 <| .take 3 <| .take 4 <| .take 5 <| .take 6 <| .take 7 <| .alt 8 (.take 9 <| .done) .stop)] _ _ ?_
    simp [-List.getD_eq_getElem?_getD, c_eqNodeS, c_eqNode]
    refine fun _ => ⟨fun h6 => ⟨by decide +kernel, h6, ?_⟩, fun h6 => ?_⟩
    · intros
      refine ⟨by omega, ?_⟩
      intros
      rw [drop_nth h6, drop_nth (by omega : i < es2.length), eqL] at h5
      rw [wrap64 (n := (i : Int) + 1) (by omega)]
      refine ⟨fun h7 => ?_, fun h7 => ⟨⟨i + 1, by omega, by omega, ?_⟩, by omega⟩⟩
      · have h8 : eqNd2 (nth es i) (nth es2 i) = false := h7
        rw [h5, h8]; rfl
      · have h8 : eqNd2 (nth es i) (nth es2 i) = true := h7
        rw [h5, h8, Bool.true_and]
    · rw [h5, List.drop_eq_nil_of_le h6, List.drop_eq_nil_of_le (by omega)]; rfl
def eqSto (a b : List PV) : Bool := (nth a 0).S == (nth b 0).S && (nth a 1).I == (nth b 1).I
def eqSto2 (a b : PV) : Bool := eqSto a.A b.A
theorem eqSto_refl (a : List PV) : eqSto a a = true := by simp [eqSto]
theorem eqStos_refl (es : List PV) : eqL eqSto2 es es = true := eqL_refl fun _ => eqSto_refl _
def c_eqStore : FSpec := ⟨[(.rd, .agg [.str, .int .i64]), (.rd, .agg [.str, .int .i64])], [.bool], true, fun _ => True, fun ps => [.bool (eqSto (nth ps 0).A (nth ps 1).A)], fun _ => []⟩
theorem k_eqStore : FnOk Tryz.prog 134 c_eqStore := by
  refine fn_mk [0, 1, 2, 3, 4] [.tmp 4] (env_nil (tyTab_ok [])) mixed Tryz.func134 rfl (by decide) rfl (by decide) rfl ?_
  intro ps hT hpre W hW
  simp only [c_eqStore, TyA, Ty, Tys] at hT hpre
  obtain ⟨_, _, rfl, ⟨_, rfl, _, _, rfl, ⟨c, rfl, hc⟩, _, _, rfl, ⟨y, rfl, hy⟩, rfl⟩, _, _, rfl, ⟨_, rfl, _, _, rfl, ⟨c', rfl, hc'⟩, _, _, rfl, ⟨y', rfl, hy'⟩, rfl⟩, rfl⟩ := hT
  refine hW.vc [] _ _ ?_
  simp [-List.getD_eq_getElem?_getD, c_eqStore]
  simp only [eqSto, nth_zero, nth_succ, pv_I, pv_S]
  exact ⟨fun q1 => by simp [q1], fun q1 => ⟨fun q2 => by simp [q2], fun q2 => by simp [q1, q2]⟩⟩
def c_eqStoreS : FSpec := ⟨[(.rd, .list (.agg [.str, .int .i64])), (.rd, .list (.agg [.str, .int .i64]))], [.bool], true, fun _ => True, fun ps => [.bool (eqL eqSto2 (nth ps 0).L (nth ps 1).L)], fun _ => []⟩
theorem k_eqStoreS : FnOk Tryz.prog 81 c_eqStoreS := by
  refine fn_mk [0, 1, 4, 5] [.tmp 4] (env_cons (cs := []) k_eqStore (env_nil (tyTab_ok []))) mixed Tryz.func81 rfl (by decide) rfl (by decide) rfl ?_
  intro ps hT hpre W hW
  simp only [c_eqStoreS, TyA, Ty, Tys] at hT hpre
  obtain ⟨_, _, rfl, ⟨es, rfl, hes, tes⟩, _, _, rfl, ⟨es2, rfl, hes2, tes2⟩, rfl⟩ := hT
  refine hW.vc [(6, [], .take 0 <| .take 1 <| .take 2 <| .take 3 <| .take 4 <| .take 5 <| .take 6 <| .take 7 <| .alt 8 (.take 9 <| .done) .stop)] _ _ ?_
  simp [-List.getD_eq_getElem?_getD, c_eqStoreS, c_eqStore]
  refine fun h1 h2 => ⟨fun h3 => eqL_len (by omega), fun h3 => ?_⟩
  refine hW.loopS _ _ _ [.sl 5 .dp (.int .i64)] (fun ys => ∃ i : Nat, ys = [.int .i64 i] ∧ i ≤ es.length ∧ eqL eqSto2 es es2 = eqL eqSto2 (es.drop i) (es2.drop i)) (fun ys => es.length - (nth ys 0).I.toNat) ?_ ?_
  · simp [-List.getD_eq_getElem?_getD, c_eqStoreS, c_eqStore]
    exact ⟨0, rfl, by simp, by simp⟩
  · rintro ys ⟨i, rfl, h4, h5⟩
    refine hW.vc [(6, [], .take 0 <| .take 1 <| .take 2 <| .take 3 <| .take 4 <| .take 5 <| .take 6 <| .take 7 <| .alt 8 (.take 9 <| .done) .stop)] _ _ ?_
    simp [-List.getD_eq_getElem?_getD, c_eqStoreS, c_eqStore]
    refine fun _ => ⟨fun h6 => ⟨by decide +kernel, h6, ?_⟩, fun h6 => ?_⟩
    · intros
      refine ⟨by omega, ?_⟩
      intros
      rw [drop_nth h6, drop_nth (by omega : i < es2.length), eqL] at h5
      rw [wrap64 (n := (i : Int) + 1) (by omega)]
      refine ⟨fun h7 => ?_, fun h7 => ⟨⟨i + 1, by omega, by omega, ?_⟩, by omega⟩⟩
      · have h8 : eqSto2 (nth es i) (nth es2 i) = false := h7
        rw [h5, h8]; rfl
      · have h8 : eqSto2 (nth es i) (nth es2 i) = true := h7
        rw [h5, h8, Bool.true_and]
    · rw [h5, List.drop_eq_nil_of_le h6, List.drop_eq_nil_of_le (by omega)]; rfl
def eqClu (a b : List PV) : Bool := eqL eqNd2 (nth a 0).L (nth b 0).L && eqL eqSto2 (nth a 1).L (nth b 1).L && eqL eqMg2 (nth a 2).L (nth b 2).L && eqL (fun x y => x.S == y.S) (nth a 3).L (nth b 3).L
theorem eqClu_refl (a : List PV) : eqClu a a = true := by simp [eqClu, eqNds_refl, eqStos_refl, eqMs_refl, eqL_refl]
def c_eqCluster : FSpec := ⟨[(.rd, .agg [.list (.agg [.int .i64, .int .i64, .int .i64, .int .i64, .int .i64, .bool, .list (.agg [.int .i64, .str]), .int .i64, .int .i64, .int .i64, .list (.int .i64), .list (.int .i64), .list (.int .i64)]), .list (.agg [.str, .int .i64]), .list (.agg [.int .i64, .int .i64, .int .i64, .int .i64, .int .i64, .int .i64, .int .i64, .bool, .list (.agg [.int .i64, .str])]), .list .str]), (.rd, .agg [.list (.agg [.int .i64, .int .i64, .int .i64, .int .i64, .int .i64, .bool, .list (.agg [.int .i64, .str]), .int .i64, .int .i64, .int .i64, .list (.int .i64), .list (.int .i64), .list (.int .i64)]), .list (.agg [.str, .int .i64]), .list (.agg [.int .i64, .int .i64, .int .i64, .int .i64, .int .i64, .int .i64, .int .i64, .bool, .list (.agg [.int .i64, .str])]), .list .str])], [.bool], true, fun _ => True, fun ps => [.bool (eqClu (nth ps 0).A (nth ps 1).A)], fun _ => []⟩
theorem k_eqCluster : FnOk Tryz.prog 47 c_eqCluster := by
  refine fn_mk [0, 1, 2, 3, 4] [.tmp 4] (env_cons (cs := []) k_eqStringS (env_cons (cs := []) k_eqMessageS (env_cons (cs := []) k_eqStoreS (env_cons (cs := []) k_eqNodeS (env_nil (tyTab_ok [])))))) mixed Tryz.func47 rfl (by decide) rfl (by decide) rfl ?_
  intro ps hT hpre W hW
  simp only [c_eqCluster, TyA, Ty, Tys] at hT hpre
  obtain ⟨_, _, rfl, ⟨_, rfl, _, _, rfl, ⟨ns, rfl, hns, tns⟩, _, _, rfl, ⟨ss, rfl, hss, tss⟩, _, _, rfl, ⟨ws, rfl, hws, tws⟩, _, _, rfl, ⟨ds, rfl, hds, tds⟩, rfl⟩, _, _, rfl, ⟨_, rfl, _, _, rfl, ⟨ns', rfl, hns', tns'⟩, _, _, rfl, ⟨ss', rfl, hss', tss'⟩, _, _, rfl, ⟨ws', rfl, hws', tws'⟩, _, _, rfl, ⟨ds', rfl, hds', tds'⟩, rfl⟩, rfl⟩ := hT
  refine hW.vc [] _ _ ?_
  simp [-List.getD_eq_getElem?_getD, c_eqCluster, c_eqNodeS, c_eqStoreS, c_eqMessageS, c_eqStringS]
  simp only [eqClu, nth_zero, nth_succ, pv_L]
  trace_state
  exact ⟨fun q1 => by simp [q1], fun q1 => ⟨fun q2 => by simp [q2], fun q2 => ⟨fun q3 => by simp [q3], fun q3 => ⟨fun q4 => by simp [q4], fun q4 => by simp [q1, q2, q3, q4]⟩⟩⟩⟩
end Go.Proofs.YtkofjkjcbljkdaaGreatDoor
end

section
namespace Go.Proofs.YtkofjkjcbljkdaaGreatDoor
variable [LaidG]
set_option maxRecDepth 100000
set_option linter.unusedSimpArgs false
def szF (f : PV → Int → Int) : List PV → Int → Int
  | [], l => l
  | e :: es, l => if f e l < 0 then -1 else szF f es (f e l)
def szFs (f : PV → Int → Int) (es : List PV) (l : Int) : Int := if l - es.length < 0 then -1 else szF f es (l - es.length)
theorem szF_le {f : PV → Int → Int} (hf : ∀ e l, 0 ≤ l → -1 ≤ f e l ∧ f e l ≤ l) : ∀ {es : List PV} {l : Int}, 0 ≤ l → -1 ≤ szF f es l ∧ szF f es l ≤ l ∧ (0 ≤ szF f es l → ∀ e ∈ es, ∃ x, 0 ≤ x ∧ x ≤ l ∧ 0 ≤ f e x)
  | [], l, h => ⟨by simp only [szF]; omega, by simp only [szF]; omega, fun _ e he => by simp at he⟩
  | e :: es, l, h => by
    have h1 := hf e l h
    simp only [szF]
    split
    · exact ⟨by omega, by omega, fun h => by omega⟩
    · rename_i h2
      have h3 := szF_le hf (es := es) (l := f e l) (by omega)
      refine ⟨h3.1, by omega, fun h4 x hx => ?_⟩
      rcases List.mem_cons.1 hx with rfl | hx
      · exact ⟨l, h, Int.le_refl _, by omega⟩
      · obtain ⟨y, y1, y2, y3⟩ := h3.2.2 h4 x hx
        exact ⟨y, y1, by omega, y3⟩
theorem szFs_le {f : PV → Int → Int} (hf : ∀ e l, 0 ≤ l → -1 ≤ f e l ∧ f e l ≤ l) {es : List PV} {l : Int} (h : 0 ≤ l) : -1 ≤ szFs f es l ∧ szFs f es l ≤ l ∧ (0 ≤ szFs f es l → (es.length : Int) ≤ l ∧ ∀ e ∈ es, ∃ x, 0 ≤ x ∧ x ≤ l ∧ 0 ≤ f e x) := by
  unfold szFs
  split
  · omega
  · have h3 := szF_le hf (es := es) (l := l - es.length) (by omega)
    refine ⟨h3.1, by omega, fun h4 => ⟨by omega, fun e he => ?_⟩⟩
    obtain ⟨y, y1, y2, y3⟩ := h3.2.2 h4 e he
    exact ⟨y, y1, by omega, y3⟩
def szNf (e : PV) (l : Int) : Int := szN e.A l
theorem szNf_ok (e : PV) (l : Int) (h : 0 ≤ l) : -1 ≤ szNf e l ∧ szNf e l ≤ l := by
  have a1 := szGs_le rowLen_nn (es := (nth e.A 6).L) h
  unfold szNf szN szQ
  split
  · omega
  · rename_i q1
    have a2 := szR1_le (n := (nth e.A 10).L.length) (Int.not_lt.1 q1)
    split
    · omega
    · rename_i q2
      have a3 := szR1_le (n := (nth e.A 11).L.length) (Int.not_lt.1 q2)
      split
      · omega
      · rename_i q3
        have a4 := szR1_le (n := (nth e.A 12).L.length) (Int.not_lt.1 q3)
        omega
def szSf (e : PV) (l : Int) : Int := szR1 l (nth e.A 0).S.length
theorem szSf_ok (e : PV) (l : Int) (h : 0 ≤ l) : -1 ≤ szSf e l ∧ szSf e l ≤ l := by have := szR1_le (n := (nth e.A 0).S.length) h; unfold szSf; omega
def szMf (e : PV) (l : Int) : Int := szGs rowLen (nth e.A 8).L l
theorem szMf_ok (e : PV) (l : Int) (h : 0 ≤ l) : -1 ≤ szMf e l ∧ szMf e l ≤ l := by have := szGs_le rowLen_nn (es := (nth e.A 8).L) h; unfold szMf; omega
def szCf (e : PV) (l : Int) : Int := szCli e.A l
theorem szCf_ok (e : PV) (l : Int) (h : 0 ≤ l) : -1 ≤ szCf e l ∧ szCf e l ≤ l := by have := szC2_le (a := (nth e.A 1).S.length) (b := (nth e.A 2).S.length) (es := (nth e.A 6).L) h; unfold szCf szCli; omega
def c_szNodeS : FSpec := ⟨[(.rd, .list (.agg [.int .i64, .int .i64, .int .i64, .int .i64, .int .i64, .bool, .list (.agg [.int .i64, .str]), .int .i64, .int .i64, .int .i64, .list (.int .i64), .list (.int .i64), .list (.int .i64)])), (.rd, .int .i64)], [.int .i64], true, fun ps => 0 ≤ (nth ps 1).I, fun ps => [.int .i64 (szFs szNf (nth ps 0).L (nth ps 1).I)], fun _ => []⟩
theorem k_szNodeS : FnOk Tryz.prog 94 c_szNodeS := by
  refine fn_mk [0, 1, 4, 5] [.tmp 4] (env_cons (cs := []) k_szNode (env_nil (tyTab_ok []))) mixed Tryz.func94 rfl (by decide) rfl (by decide) rfl ?_
  intro ps hT hpre W hW
  simp only [c_szNodeS, TyA, Ty, Tys] at hT hpre
  obtain ⟨_, _, rfl, ⟨es, rfl, hes, tes⟩, _, _, rfl, ⟨l, rfl, hl⟩, rfl⟩ := hT
  simp only [nth_zero, nth_succ, pv_I] at hpre
  refine hW.vc [] _ _ ?_
  simp [-List.getD_eq_getElem?_getD, c_szNodeS, c_szNode]
  intro h1
  rw [inR64] at hl
  rw [wrap64 (by omega)]
  refine ⟨fun h => by simp [szFs, h], fun h => ?_⟩
  refine hW.loopS _ _ _ [.sl 1 .dp (.int .i64), .sl 5 .dp (.int .i64)] (fun ys => ∃ (x : Int) (i : Nat), ys = [.int .i64 x, .int .i64 i] ∧ 0 ≤ x ∧ x ≤ l ∧ i ≤ es.length ∧ szFs szNf es l = szF szNf (es.drop i) x) (fun ys => es.length - (nth ys 1).I.toNat) ?_ ?_
  · simp [-List.getD_eq_getElem?_getD, c_szNodeS, c_szNode]
    exact ⟨_, 0, ⟨rfl, rfl⟩, h, by omega, by simp, by simp [szFs, Int.not_lt.2 h]⟩
  · rintro ys ⟨x, i, rfl, h2, h3, h4, h5⟩
    refine hW.vc [] _ _ ?_
    simp [-List.getD_eq_getElem?_getD, c_szNodeS, c_szNode]
    refine fun _ => ⟨fun h6 => ⟨h6, ?_⟩, fun h6 => by rw [h5, List.drop_eq_nil_of_le h6]; rfl⟩
    intros
    have h7 := (szNf_ok (nth es i) x h2)
    rw [drop_nth h6, szF] at h5
    obtain ⟨y, hy⟩ : ∃ y, y = szNf (nth es i) x := ⟨_, rfl⟩
    have hy' := hy
    unfold szNf at hy'
    rw [← hy] at h5 h7
    refine ⟨h2, fun h8 => ?_, fun h8 => ⟨⟨y, i + 1, ⟨hy'.symm, ?_⟩, ?_, by omega, by omega, ?_⟩, ?_⟩⟩
    · rw [h5, if_pos (by rw [hy']; exact h8)]
    · rw [wrap64 (by omega)]; omega
    · rw [hy']; exact h8
    · rw [h5, if_neg (by rw [hy']; exact Int.not_lt.2 h8)]
    · rw [wrap64 (by omega)]; omega
def c_szStore : FSpec := ⟨[(.rd, .agg [.str, .int .i64]), (.rd, .int .i64)], [.int .i64], true, fun ps => 0 ≤ (nth ps 1).I, fun ps => [.int .i64 (szR1 (nth ps 1).I (nth (nth ps 0).A 0).S.length)], fun _ => []⟩
theorem k_szStore : FnOk Tryz.prog 142 c_szStore := by
  refine fn_mk [0, 1, 2, 4] [.tmp 4] (env_nil (tyTab_ok [])) mixed Tryz.func142 rfl (by decide) rfl (by decide) rfl ?_
  intro ps hT hpre W hW
  simp only [c_szStore, TyA, Ty, Tys] at hT hpre
  obtain ⟨_, _, rfl, ⟨_, rfl, _, _, rfl, ⟨c, rfl, hc⟩, _, _, rfl, ⟨y, rfl, hy⟩, rfl⟩, _, _, rfl, ⟨l, rfl, hl⟩, rfl⟩ := hT
  simp only [nth_zero, nth_succ, pv_I] at hpre
  refine hW.vc [] _ _ ?_
  simp [-List.getD_eq_getElem?_getD, c_szStore]
  intro h1
  rw [inR64] at hl
  rw [wrap64 (by omega)]
  exact ⟨fun h => by rw [szR1, if_pos h], fun h => by rw [szR1, if_neg (Int.not_lt.2 h)]⟩
def c_szStoreS : FSpec := ⟨[(.rd, .list (.agg [.str, .int .i64])), (.rd, .int .i64)], [.int .i64], true, fun ps => 0 ≤ (nth ps 1).I, fun ps => [.int .i64 (szFs szSf (nth ps 0).L (nth ps 1).I)], fun _ => []⟩
theorem k_szStoreS : FnOk Tryz.prog 95 c_szStoreS := by
  refine fn_mk [0, 1, 4, 5] [.tmp 4] (env_cons (cs := []) k_szStore (env_nil (tyTab_ok []))) mixed Tryz.func95 rfl (by decide) rfl (by decide) rfl ?_
  intro ps hT hpre W hW
  simp only [c_szStoreS, TyA, Ty, Tys] at hT hpre
  obtain ⟨_, _, rfl, ⟨es, rfl, hes, tes⟩, _, _, rfl, ⟨l, rfl, hl⟩, rfl⟩ := hT
  simp only [nth_zero, nth_succ, pv_I] at hpre
  refine hW.vc [] _ _ ?_
  simp [-List.getD_eq_getElem?_getD, c_szStoreS, c_szStore]
  intro h1
  rw [inR64] at hl
  rw [wrap64 (by omega)]
  refine ⟨fun h => by simp [szFs, h], fun h => ?_⟩
  refine hW.loopS _ _ _ [.sl 1 .dp (.int .i64), .sl 5 .dp (.int .i64)] (fun ys => ∃ (x : Int) (i : Nat), ys = [.int .i64 x, .int .i64 i] ∧ 0 ≤ x ∧ x ≤ l ∧ i ≤ es.length ∧ szFs szSf es l = szF szSf (es.drop i) x) (fun ys => es.length - (nth ys 1).I.toNat) ?_ ?_
  · simp [-List.getD_eq_getElem?_getD, c_szStoreS, c_szStore]
    exact ⟨_, 0, ⟨rfl, rfl⟩, h, by omega, by simp, by simp [szFs, Int.not_lt.2 h]⟩
  · rintro ys ⟨x, i, rfl, h2, h3, h4, h5⟩
    refine hW.vc [] _ _ ?_
    simp [-List.getD_eq_getElem?_getD, c_szStoreS, c_szStore]
    refine fun _ => ⟨fun h6 => ⟨h6, ?_⟩, fun h6 => by rw [h5, List.drop_eq_nil_of_le h6]; rfl⟩
    intros
    have h7 := (szSf_ok (nth es i) x h2)
    rw [drop_nth h6, szF] at h5
    obtain ⟨y, hy⟩ : ∃ y, y = szSf (nth es i) x := ⟨_, rfl⟩
    have hy' := hy
    unfold szSf at hy'
    rw [← hy] at h5 h7
    refine ⟨h2, fun h8 => ?_, fun h8 => ⟨⟨y, i + 1, ⟨hy'.symm, ?_⟩, ?_, by omega, by omega, ?_⟩, ?_⟩⟩
    · rw [h5, if_pos (by rw [hy']; exact h8)]
    · rw [wrap64 (by omega)]; omega
    · rw [hy']; exact h8
    · rw [h5, if_neg (by rw [hy']; exact Int.not_lt.2 h8)]
    · rw [wrap64 (by omega)]; omega
def c_szMessageS : FSpec := ⟨[(.rd, .list (.agg [.int .i64, .int .i64, .int .i64, .int .i64, .int .i64, .int .i64, .int .i64, .bool, .list (.agg [.int .i64, .str])])), (.rd, .int .i64)], [.int .i64], true, fun ps => 0 ≤ (nth ps 1).I, fun ps => [.int .i64 (szFs szMf (nth ps 0).L (nth ps 1).I)], fun _ => []⟩
theorem k_szMessageS : FnOk Tryz.prog 96 c_szMessageS := by
  refine fn_mk [0, 1, 4, 5] [.tmp 4] (env_cons (cs := []) k_szMessage (env_nil (tyTab_ok []))) mixed Tryz.func96 rfl (by decide) rfl (by decide) rfl ?_
  intro ps hT hpre W hW
  simp only [c_szMessageS, TyA, Ty, Tys] at hT hpre
  obtain ⟨_, _, rfl, ⟨es, rfl, hes, tes⟩, _, _, rfl, ⟨l, rfl, hl⟩, rfl⟩ := hT
  simp only [nth_zero, nth_succ, pv_I] at hpre
  refine hW.vc [] _ _ ?_
  simp [-List.getD_eq_getElem?_getD, c_szMessageS, c_szMessage]
  intro h1
  rw [inR64] at hl
  rw [wrap64 (by omega)]
  refine ⟨fun h => by simp [szFs, h], fun h => ?_⟩
  refine hW.loopS _ _ _ [.sl 1 .dp (.int .i64), .sl 5 .dp (.int .i64)] (fun ys => ∃ (x : Int) (i : Nat), ys = [.int .i64 x, .int .i64 i] ∧ 0 ≤ x ∧ x ≤ l ∧ i ≤ es.length ∧ szFs szMf es l = szF szMf (es.drop i) x) (fun ys => es.length - (nth ys 1).I.toNat) ?_ ?_
  · simp [-List.getD_eq_getElem?_getD, c_szMessageS, c_szMessage]
    exact ⟨_, 0, ⟨rfl, rfl⟩, h, by omega, by simp, by simp [szFs, Int.not_lt.2 h]⟩
  · rintro ys ⟨x, i, rfl, h2, h3, h4, h5⟩
    refine hW.vc [] _ _ ?_
    simp [-List.getD_eq_getElem?_getD, c_szMessageS, c_szMessage]
    refine fun _ => ⟨fun h6 => ⟨h6, ?_⟩, fun h6 => by rw [h5, List.drop_eq_nil_of_le h6]; rfl⟩
    intros
    have h7 := (szMf_ok (nth es i) x h2)
    rw [drop_nth h6, szF] at h5
    obtain ⟨y, hy⟩ : ∃ y, y = szMf (nth es i) x := ⟨_, rfl⟩
    have hy' := hy
    unfold szMf at hy'
    rw [← hy] at h5 h7
    refine ⟨h2, fun h8 => ?_, fun h8 => ⟨⟨y, i + 1, ⟨hy'.symm, ?_⟩, ?_, by omega, by omega, ?_⟩, ?_⟩⟩
    · rw [h5, if_pos (by rw [hy']; exact h8)]
    · rw [wrap64 (by omega)]; omega
    · rw [hy']; exact h8
    · rw [h5, if_neg (by rw [hy']; exact Int.not_lt.2 h8)]
    · rw [wrap64 (by omega)]; omega
def szQ4 (ns ss ws ds : List PV) (l : Int) : Int := if szFs szNf ns l < 0 then -1 else if szFs szSf ss (szFs szNf ns l) < 0 then -1 else if szFs szMf ws (szFs szSf ss (szFs szNf ns l)) < 0 then -1 else szStr ds (szFs szMf ws (szFs szSf ss (szFs szNf ns l)))
def szClu (v : List PV) (l : Int) : Int := szQ4 (nth v 0).L (nth v 1).L (nth v 2).L (nth v 3).L l
def ndSm (e : PV) : Prop := (nth e.A 6).L.length ≤ 1048576 ∧ (nth e.A 10).L.length ≤ 1048576 ∧ (nth e.A 11).L.length ≤ 1048576 ∧ (nth e.A 12).L.length ≤ 1048576
theorem szN_sm {v : List PV} {l : Int} (h : 0 ≤ l) (h2 : 0 ≤ szN v l) : ((nth v 6).L.length : Int) ≤ l ∧ ((nth v 10).L.length : Int) ≤ l ∧ ((nth v 11).L.length : Int) ≤ l ∧ ((nth v 12).L.length : Int) ≤ l := by
  unfold szN szQ at h2
  have a1 := szGs_le rowLen_nn (es := (nth v 6).L) h
  split at h2
  · omega
  · rename_i q1
    have a2 := szR1_le (n := (nth v 10).L.length) (Int.not_lt.1 q1)
    split at h2
    · omega
    · rename_i q2
      have a3 := szR1_le (n := (nth v 11).L.length) (Int.not_lt.1 q2)
      split at h2
      · omega
      · rename_i q3
        have a4 := szR1_le (n := (nth v 12).L.length) (Int.not_lt.1 q3)
        omega
def cluSm (v : List PV) : Prop := ((nth v 0).L.length ≤ 1048576 ∧ ∀ e ∈ (nth v 0).L, ndSm e) ∧ (nth v 1).L.length ≤ 1048576 ∧ ((nth v 2).L.length ≤ 1048576 ∧ ∀ e ∈ (nth v 2).L, (nth e.A 8).L.length ≤ 1048576) ∧ (nth v 3).L.length ≤ 1048576
theorem szClu_le {v : List PV} {l : Int} (h : 0 ≤ l) : -1 ≤ szClu v l ∧ szClu v l ≤ l ∧ (0 ≤ szClu v l → l ≤ 1048576 → cluSm v) := by
  have a1 := szFs_le szNf_ok (es := (nth v 0).L) h
  unfold szClu szQ4
  split
  · omega
  · rename_i q1
    have a2 := szFs_le szSf_ok (es := (nth v 1).L) (Int.not_lt.1 q1)
    split
    · omega
    · rename_i q2
      have a3 := szFs_le szMf_ok (es := (nth v 2).L) (Int.not_lt.1 q2)
      split
      · omega
      · rename_i q3
        have a4 := szStr_le (es := (nth v 3).L) (Int.not_lt.1 q3)
        refine ⟨by omega, by omega, fun q4 q5 => ?_⟩
        obtain ⟨c1, c2⟩ := a1.2.2 (by omega)
        obtain ⟨d1, d2⟩ := a2.2.2 (by omega)
        obtain ⟨e1, e2⟩ := a3.2.2 (by omega)
        refine ⟨⟨by omega, fun e he => ?_⟩, by omega, ⟨by omega, fun e he => ?_⟩, by omega⟩
        · obtain ⟨x, x1, x2, x3⟩ := c2 e he
          have := szN_sm x1 x3
          exact ⟨by omega, by omega, by omega, by omega⟩
        · obtain ⟨x, x1, x2, x3⟩ := e2 e he
          have := (szGs_le rowLen_nn (es := (nth e.A 8).L) x1).2.2 x3
          omega
def c_szCluster : FSpec := ⟨[(.rd, .agg [.list (.agg [.int .i64, .int .i64, .int .i64, .int .i64, .int .i64, .bool, .list (.agg [.int .i64, .str]), .int .i64, .int .i64, .int .i64, .list (.int .i64), .list (.int .i64), .list (.int .i64)]), .list (.agg [.str, .int .i64]), .list (.agg [.int .i64, .int .i64, .int .i64, .int .i64, .int .i64, .int .i64, .int .i64, .bool, .list (.agg [.int .i64, .str])]), .list .str]), (.rd, .int .i64)], [.int .i64], true, fun ps => 0 ≤ (nth ps 1).I, fun ps => [.int .i64 (szClu (nth ps 0).A (nth ps 1).I)], fun _ => []⟩
theorem k_szCluster : FnOk Tryz.prog 53 c_szCluster := by
  refine fn_mk [0, 1, 2, 4] [.tmp 4] (env_cons (cs := []) k_szStringS (env_cons (cs := []) k_szMessageS (env_cons (cs := []) k_szStoreS (env_cons (cs := []) k_szNodeS (env_nil (tyTab_ok [])))))) mixed Tryz.func53 rfl (by decide) rfl (by decide) rfl ?_
  intro ps hT hpre W hW
  simp only [c_szCluster, TyA, Ty, Tys] at hT hpre
  obtain ⟨_, _, rfl, ⟨_, rfl, _, _, rfl, ⟨ns, rfl, hns, tns⟩, _, _, rfl, ⟨ss, rfl, hss, tss⟩, _, _, rfl, ⟨ws, rfl, hws, tws⟩, _, _, rfl, ⟨ds, rfl, hds, tds⟩, rfl⟩, _, _, rfl, ⟨l, rfl, hl⟩, rfl⟩ := hT
  simp only [nth_zero, nth_succ, pv_I] at hpre
  have a1 := szFs_le szNf_ok (es := ns) hpre
  refine hW.vc [] _ _ ?_
  simp [-List.getD_eq_getElem?_getD, c_szCluster, c_szNodeS, c_szStoreS, c_szMessageS, c_szStringS]
  simp only [szClu, nth_zero, nth_succ, pv_L]
  unfold szQ4
  refine ⟨hpre, fun q => by rw [if_pos q], fun q => ⟨q, fun q2 => by rw [if_neg (by omega), if_pos q2], fun q2 => ⟨q2, fun q3 => by rw [if_neg (by omega), if_neg (by omega), if_pos q3], fun q3 => ⟨q3, fun q4 => ?_, fun q4 => ?_⟩⟩⟩⟩
  · rw [if_neg (by omega), if_neg (by omega), if_neg (by omega)]
    have := (szStr_le (es := ds) q3)
    omega
  · rw [if_neg (by omega), if_neg (by omega), if_neg (by omega)]
def c_szClientS : FSpec := ⟨[(.rd, .list (.agg [.int .i64, .str, .str, .int .i64, .int .i64, .int .i64, .list .str])), (.rd, .int .i64)], [.int .i64], true, fun ps => 0 ≤ (nth ps 1).I, fun ps => [.int .i64 (szFs szCf (nth ps 0).L (nth ps 1).I)], fun _ => []⟩
theorem k_szClientS : FnOk Tryz.prog 54 c_szClientS := by
  refine fn_mk [0, 1, 4, 5] [.tmp 4] (env_cons (cs := []) k_szClient (env_nil (tyTab_ok []))) mixed Tryz.func54 rfl (by decide) rfl (by decide) rfl ?_
  intro ps hT hpre W hW
  simp only [c_szClientS, TyA, Ty, Tys] at hT hpre
  obtain ⟨_, _, rfl, ⟨es, rfl, hes, tes⟩, _, _, rfl, ⟨l, rfl, hl⟩, rfl⟩ := hT
  simp only [nth_zero, nth_succ, pv_I] at hpre
  refine hW.vc [] _ _ ?_
  simp [-List.getD_eq_getElem?_getD, c_szClientS, c_szClient]
  intro h1
  rw [inR64] at hl
  rw [wrap64 (by omega)]
  refine ⟨fun h => by simp [szFs, h], fun h => ?_⟩
  refine hW.loopS _ _ _ [.sl 1 .dp (.int .i64), .sl 5 .dp (.int .i64)] (fun ys => ∃ (x : Int) (i : Nat), ys = [.int .i64 x, .int .i64 i] ∧ 0 ≤ x ∧ x ≤ l ∧ i ≤ es.length ∧ szFs szCf es l = szF szCf (es.drop i) x) (fun ys => es.length - (nth ys 1).I.toNat) ?_ ?_
  · simp [-List.getD_eq_getElem?_getD, c_szClientS, c_szClient]
    exact ⟨_, 0, ⟨rfl, rfl⟩, h, by omega, by simp, by simp [szFs, Int.not_lt.2 h]⟩
  · rintro ys ⟨x, i, rfl, h2, h3, h4, h5⟩
    refine hW.vc [] _ _ ?_
    simp [-List.getD_eq_getElem?_getD, c_szClientS, c_szClient]
    refine fun _ => ⟨fun h6 => ⟨h6, ?_⟩, fun h6 => by rw [h5, List.drop_eq_nil_of_le h6]; rfl⟩
    intros
    have h7 := (szCf_ok (nth es i) x h2)
    rw [drop_nth h6, szF] at h5
    obtain ⟨y, hy⟩ : ∃ y, y = szCf (nth es i) x := ⟨_, rfl⟩
    have hy' := hy
    unfold szCf at hy'
    rw [← hy] at h5 h7
    refine ⟨h2, fun h8 => ?_, fun h8 => ⟨⟨y, i + 1, ⟨hy'.symm, ?_⟩, ?_, by omega, by omega, ?_⟩, ?_⟩⟩
    · rw [h5, if_pos (by rw [hy']; exact h8)]
    · rw [wrap64 (by omega)]; omega
    · rw [hy']; exact h8
    · rw [h5, if_neg (by rw [hy']; exact Int.not_lt.2 h8)]
    · rw [wrap64 (by omega)]; omega
def szQ2 (v cs : List PV) (l : Int) : Int := if szClu v l < 0 then -1 else szFs szCf cs (szClu v l)
def szWor (v : List PV) (l : Int) : Int := szQ2 [nth v 2, nth v 3, nth v 4, nth v 5] (nth v 6).L l
def worSm (v : List PV) : Prop := cluSm [nth v 2, nth v 3, nth v 4, nth v 5] ∧ (nth v 6).L.length ≤ 1048576 ∧ ∀ e ∈ (nth v 6).L, (nth e.A 6).L.length ≤ 1048576
theorem szWor_le {v : List PV} {l : Int} (h : 0 ≤ l) : -1 ≤ szWor v l ∧ szWor v l ≤ l ∧ (0 ≤ szWor v l → l ≤ 1048576 → worSm v) := by
  have a1 := szClu_le (v := [nth v 2, nth v 3, nth v 4, nth v 5]) h
  unfold szWor szQ2
  split
  · omega
  · rename_i q1
    have a2 := szFs_le szCf_ok (es := (nth v 6).L) (Int.not_lt.1 q1)
    refine ⟨by omega, by omega, fun q4 q5 => ?_⟩
    obtain ⟨d1, d2⟩ := a2.2.2 (by omega)
    refine ⟨a1.2.2 (by omega) q5, by omega, fun e he => ?_⟩
    obtain ⟨x, x1, x2, x3⟩ := d2 e he
    have := (szC2_le (a := (nth e.A 1).S.length) (b := (nth e.A 2).S.length) (es := (nth e.A 6).L) x1).2.2 x3
    omega
def c_szWorld : FSpec := ⟨[(.rd, .agg [.int .i64, .int .i64, .list (.agg [.int .i64, .int .i64, .int .i64, .int .i64, .int .i64, .bool, .list (.agg [.int .i64, .str]), .int .i64, .int .i64, .int .i64, .list (.int .i64), .list (.int .i64), .list (.int .i64)]), .list (.agg [.str, .int .i64]), .list (.agg [.int .i64, .int .i64, .int .i64, .int .i64, .int .i64, .int .i64, .int .i64, .bool, .list (.agg [.int .i64, .str])]), .list .str, .list (.agg [.int .i64, .str, .str, .int .i64, .int .i64, .int .i64, .list .str])]), (.rd, .int .i64)], [.int .i64], true, fun ps => 0 ≤ (nth ps 1).I, fun ps => [.int .i64 (szWor (nth ps 0).A (nth ps 1).I)], fun _ => []⟩
theorem k_szWorld : FnOk Tryz.prog 23 c_szWorld := by
  refine fn_mk [0, 1, 2, 4] [.tmp 4] (env_cons (cs := []) k_szClientS (env_cons (cs := []) k_szCluster (env_nil (tyTab_ok [])))) mixed Tryz.func23 rfl (by decide) rfl (by decide) rfl ?_
  intro ps hT hpre W hW
  simp only [c_szWorld, TyA, Ty, Tys] at hT hpre
  obtain ⟨_, _, rfl, ⟨_, rfl, _, _, rfl, ⟨ww, rfl, hww⟩, _, _, rfl, ⟨wh, rfl, hwh⟩, _, _, rfl, ⟨ns, rfl, hns, tns⟩, _, _, rfl, ⟨ss, rfl, hss, tss⟩, _, _, rfl, ⟨ws, rfl, hws, tws⟩, _, _, rfl, ⟨ds, rfl, hds, tds⟩, _, _, rfl, ⟨cs, rfl, hcs, tcs⟩, rfl⟩, _, _, rfl, ⟨l, rfl, hl⟩, rfl⟩ := hT
  simp only [nth_zero, nth_succ, pv_I] at hpre
  have a1 := szClu_le (v := [.list ns, .list ss, .list ws, .list ds]) hpre
  refine hW.vc [] _ _ ?_
  simp [-List.getD_eq_getElem?_getD, c_szWorld, c_szCluster, c_szClientS]
  simp only [szWor, nth_zero, nth_succ, pv_L]
  unfold szQ2
  refine ⟨hpre, fun q => by rw [if_pos q], fun q => ⟨q, fun q2 => ?_, fun q2 => ?_⟩⟩
  · rw [if_neg (by omega)]
    have := szFs_le szCf_ok (es := cs) q
    omega
  · rw [if_neg (by omega)]
def c_toNodeS : FSpec := ⟨[(.rd, .list (.agg [.int .i64, .int .i64, .int .i64, .int .i64, .int .i64, .bool, .list (.agg [.int .i64, .str]), .int .i64, .int .i64, .int .i64, .list (.int .i64), .list (.int .i64), .list (.int .i64)]))], [.list (.agg [.int .i64, .int .i64, .int .i64, .int .i64, .int .i64, .bool, .list (.agg [.int .i64, .str]), .int .i64, .int .i64, .int .i64, .list (.int .i64), .list (.int .i64), .list (.int .i64)])], true, fun ps => (nth ps 0).L.length ≤ 1048576 ∧ ∀ e ∈ (nth ps 0).L, ndSm e, fun ps => [.list (nth ps 0).L], fun _ => []⟩
theorem k_toNodeS : FnOk Tryz.prog 107 c_toNodeS := by
  refine fn_mk [0, 2, 3, 4] [.tmp 2] (env_cons (cs := []) k_toNode (env_nil (tyTab_ok []))) mixed Tryz.func107 rfl (by decide) rfl (by decide) rfl ?_
  intro ps hT hpre W hW
  simp only [c_toNodeS, TyA, Ty, Tys] at hT hpre
  obtain ⟨_, _, rfl, ⟨es, rfl, hes, tes⟩, rfl⟩ := hT
  simp only [nth_zero, pv_L] at hpre
  refine hW.vc [] _ _ ?_
  simp [-List.getD_eq_getElem?_getD, c_toNodeS, c_toNode]
  refine fun h1 => ⟨by omega, hW.loopS _ _ _ [.sl 3 .dp (.list (.agg [.int .i64, .int .i64, .int .i64, .int .i64, .int .i64, .bool, .list (.agg [.int .i64, .str]), .int .i64, .int .i64, .int .i64, .list (.int .i64), .list (.int .i64), .list (.int .i64)])), .sl 4 .dp (.int .i64)] (fun ys => ∃ (out : List PV) (i : Nat), ys = [.list out, .int .i64 i] ∧ i ≤ es.length ∧ out.length = es.length ∧ out.take i = es.take i) (fun ys => es.length - (nth ys 1).I.toNat) ?_ ?_⟩
  · simp [-List.getD_eq_getElem?_getD, c_toNodeS, c_toNode]
    exact ⟨_, 0, ⟨rfl, rfl⟩, by simp, by simp, by simp⟩
  · rintro ys ⟨out, i, rfl, h2, h3, h4⟩
    refine hW.vc [] _ _ ?_
    simp [-List.getD_eq_getElem?_getD, c_toNodeS, c_toNode]
    refine fun _ => ⟨fun h5 => ⟨h5, ?_⟩, fun h5 => ?_⟩
    · intros
      have hq := hpre.2 _ (nth_mem h5)
      obtain ⟨_, he, _, _, rfl, ⟨_, rfl, _⟩, _, _, rfl, ⟨_, rfl, _⟩, _, _, rfl, ⟨_, rfl, _⟩, _, _, rfl, ⟨_, rfl, _⟩, _, _, rfl, ⟨_, rfl, _⟩, _, _, rfl, ⟨_, rfl⟩, _, _, rfl, ⟨_, rfl, _, _⟩, _, _, rfl, ⟨_, rfl, _⟩, _, _, rfl, ⟨_, rfl, _⟩, _, _, rfl, ⟨_, rfl, _⟩, _, _, rfl, ⟨_, rfl, _, _⟩, _, _, rfl, ⟨_, rfl, _, _⟩, _, _, rfl, ⟨_, rfl, _, _⟩, rfl⟩ := tes _ (nth_mem h5)
      rw [wrap64 (n := (i : Int) + 1) (by omega)]
      refine ⟨hq, by omega, ?_⟩
      refine ⟨⟨_, i + 1, ⟨rfl, by omega⟩, by omega, by simp [h3], set_take h4 h3 h5 (by rw [he]; rfl)⟩, by omega⟩
    · rw [List.take_of_length_le (by omega), List.take_of_length_le (by omega)] at h4
      exact h4
def c_toStore : FSpec := ⟨[(.rd, .agg [.str, .int .i64])], [.agg [.str, .int .i64]], true, fun _ => True, fun ps => [nth ps 0], fun _ => []⟩
theorem k_toStore : FnOk Tryz.prog 153 c_toStore := by
  refine fn_mk [0, 1, 2, 3] [.cell 2 144] (env_nil (tyTab_ok [])) mixed Tryz.func153 rfl (by decide) rfl (by decide) rfl ?_
  intro ps hT hpre W hW
  simp only [c_toStore, TyA, Ty, Tys] at hT hpre
  obtain ⟨_, _, rfl, ⟨_, rfl, _, _, rfl, ⟨c, rfl, hc⟩, _, _, rfl, ⟨y, rfl, hy⟩, rfl⟩, rfl⟩ := hT
  refine hW.vc [] _ _ ?_
  simp [-List.getD_eq_getElem?_getD, c_toStore]
def c_toStoreS : FSpec := ⟨[(.rd, .list (.agg [.str, .int .i64]))], [.list (.agg [.str, .int .i64])], true, fun ps => (nth ps 0).L.length ≤ 1048576, fun ps => [.list (nth ps 0).L], fun _ => []⟩
theorem k_toStoreS : FnOk Tryz.prog 108 c_toStoreS := by
  refine fn_mk [0, 2, 3, 4] [.tmp 2] (env_cons (cs := []) k_toStore (env_nil (tyTab_ok []))) mixed Tryz.func108 rfl (by decide) rfl (by decide) rfl ?_
  intro ps hT hpre W hW
  simp only [c_toStoreS, TyA, Ty, Tys] at hT hpre
  obtain ⟨_, _, rfl, ⟨es, rfl, hes, tes⟩, rfl⟩ := hT
  simp only [nth_zero, pv_L] at hpre
  refine hW.vc [] _ _ ?_
  simp [-List.getD_eq_getElem?_getD, c_toStoreS, c_toStore]
  refine fun h1 => ⟨by omega, hW.loopS _ _ _ [.sl 3 .dp (.list (.agg [.str, .int .i64])), .sl 4 .dp (.int .i64)] (fun ys => ∃ (out : List PV) (i : Nat), ys = [.list out, .int .i64 i] ∧ i ≤ es.length ∧ out.length = es.length ∧ out.take i = es.take i) (fun ys => es.length - (nth ys 1).I.toNat) ?_ ?_⟩
  · simp [-List.getD_eq_getElem?_getD, c_toStoreS, c_toStore]
    exact ⟨_, 0, ⟨rfl, rfl⟩, by simp, by simp, by simp⟩
  · rintro ys ⟨out, i, rfl, h2, h3, h4⟩
    refine hW.vc [] _ _ ?_
    simp [-List.getD_eq_getElem?_getD, c_toStoreS, c_toStore]
    refine fun _ => ⟨fun h5 => ⟨h5, ?_⟩, fun h5 => ?_⟩
    · intros
      skip
      obtain ⟨_, he, _, _, rfl, ⟨_, rfl, _⟩, _, _, rfl, ⟨_, rfl, _⟩, rfl⟩ := tes _ (nth_mem h5)
      rw [wrap64 (n := (i : Int) + 1) (by omega)]
      refine ⟨by omega, ?_⟩
      refine ⟨⟨_, i + 1, ⟨rfl, by omega⟩, by omega, by simp [h3], set_take h4 h3 h5 (by rw [he]; rfl)⟩, by omega⟩
    · rw [List.take_of_length_le (by omega), List.take_of_length_le (by omega)] at h4
      exact h4
def c_toMessageS : FSpec := ⟨[(.rd, .list (.agg [.int .i64, .int .i64, .int .i64, .int .i64, .int .i64, .int .i64, .int .i64, .bool, .list (.agg [.int .i64, .str])]))], [.list (.agg [.int .i64, .int .i64, .int .i64, .int .i64, .int .i64, .int .i64, .int .i64, .bool, .list (.agg [.int .i64, .str])])], true, fun ps => (nth ps 0).L.length ≤ 1048576 ∧ ∀ e ∈ (nth ps 0).L, (nth e.A 8).L.length ≤ 1048576, fun ps => [.list (nth ps 0).L], fun _ => []⟩
theorem k_toMessageS : FnOk Tryz.prog 109 c_toMessageS := by
  refine fn_mk [0, 2, 3, 4] [.tmp 2] (env_cons (cs := []) k_toMessage (env_nil (tyTab_ok []))) mixed Tryz.func109 rfl (by decide) rfl (by decide) rfl ?_
  intro ps hT hpre W hW
  simp only [c_toMessageS, TyA, Ty, Tys] at hT hpre
  obtain ⟨_, _, rfl, ⟨es, rfl, hes, tes⟩, rfl⟩ := hT
  simp only [nth_zero, pv_L] at hpre
  refine hW.vc [] _ _ ?_
  simp [-List.getD_eq_getElem?_getD, c_toMessageS, c_toMessage]
  refine fun h1 => ⟨by omega, hW.loopS _ _ _ [.sl 3 .dp (.list (.agg [.int .i64, .int .i64, .int .i64, .int .i64, .int .i64, .int .i64, .int .i64, .bool, .list (.agg [.int .i64, .str])])), .sl 4 .dp (.int .i64)] (fun ys => ∃ (out : List PV) (i : Nat), ys = [.list out, .int .i64 i] ∧ i ≤ es.length ∧ out.length = es.length ∧ out.take i = es.take i) (fun ys => es.length - (nth ys 1).I.toNat) ?_ ?_⟩
  · simp [-List.getD_eq_getElem?_getD, c_toMessageS, c_toMessage]
    exact ⟨_, 0, ⟨rfl, rfl⟩, by simp, by simp, by simp⟩
  · rintro ys ⟨out, i, rfl, h2, h3, h4⟩
    refine hW.vc [] _ _ ?_
    simp [-List.getD_eq_getElem?_getD, c_toMessageS, c_toMessage]
    refine fun _ => ⟨fun h5 => ⟨h5, ?_⟩, fun h5 => ?_⟩
    · intros
      have hq := hpre.2 _ (nth_mem h5)
      obtain ⟨_, he, _, _, rfl, ⟨_, rfl, _⟩, _, _, rfl, ⟨_, rfl, _⟩, _, _, rfl, ⟨_, rfl, _⟩, _, _, rfl, ⟨_, rfl, _⟩, _, _, rfl, ⟨_, rfl, _⟩, _, _, rfl, ⟨_, rfl, _⟩, _, _, rfl, ⟨_, rfl, _⟩, _, _, rfl, ⟨_, rfl⟩, _, _, rfl, ⟨_, rfl, _, _⟩, rfl⟩ := tes _ (nth_mem h5)
      rw [wrap64 (n := (i : Int) + 1) (by omega)]
      refine ⟨hq, by omega, ?_⟩
      refine ⟨⟨_, i + 1, ⟨rfl, by omega⟩, by omega, by simp [h3], set_take h4 h3 h5 (by rw [he]; rfl)⟩, by omega⟩
    · rw [List.take_of_length_le (by omega), List.take_of_length_le (by omega)] at h4
      exact h4
def c_toCluster : FSpec := ⟨[(.rd, .agg [.list (.agg [.int .i64, .int .i64, .int .i64, .int .i64, .int .i64, .bool, .list (.agg [.int .i64, .str]), .int .i64, .int .i64, .int .i64, .list (.int .i64), .list (.int .i64), .list (.int .i64)]), .list (.agg [.str, .int .i64]), .list (.agg [.int .i64, .int .i64, .int .i64, .int .i64, .int .i64, .int .i64, .int .i64, .bool, .list (.agg [.int .i64, .str])]), .list .str])], [.agg [.list (.agg [.int .i64, .int .i64, .int .i64, .int .i64, .int .i64, .bool, .list (.agg [.int .i64, .str]), .int .i64, .int .i64, .int .i64, .list (.int .i64), .list (.int .i64), .list (.int .i64)]), .list (.agg [.str, .int .i64]), .list (.agg [.int .i64, .int .i64, .int .i64, .int .i64, .int .i64, .int .i64, .int .i64, .bool, .list (.agg [.int .i64, .str])]), .list .str]], true, fun ps => cluSm (nth ps 0).A, fun ps => [nth ps 0], fun _ => []⟩
theorem k_toCluster : FnOk Tryz.prog 58 c_toCluster := by
  refine fn_mk [0, 1, 2, 3] [.cell 2 47] (env_cons (cs := []) k_toStringS (env_cons (cs := []) k_toMessageS (env_cons (cs := []) k_toStoreS (env_cons (cs := []) k_toNodeS (env_nil (tyTab_ok [])))))) mixed Tryz.func58 rfl (by decide) rfl (by decide) rfl ?_
  intro ps hT hpre W hW
  simp only [c_toCluster, TyA, Ty, Tys] at hT hpre
  obtain ⟨_, _, rfl, ⟨_, rfl, _, _, rfl, ⟨ns, rfl, hns, tns⟩, _, _, rfl, ⟨ss, rfl, hss, tss⟩, _, _, rfl, ⟨ws, rfl, hws, tws⟩, _, _, rfl, ⟨ds, rfl, hds, tds⟩, rfl⟩, rfl⟩ := hT
  simp only [nth_zero, nth_succ, pv_A, pv_L, cluSm] at hpre
  refine hW.vc [] _ _ ?_
  simp [-List.getD_eq_getElem?_getD, c_toCluster, c_toNodeS, c_toStoreS, c_toMessageS, c_toStringS]
  exact hpre
def c_toClientS : FSpec := ⟨[(.rd, .list (.agg [.int .i64, .str, .str, .int .i64, .int .i64, .int .i64, .list .str]))], [.list (.agg [.int .i64, .str, .str, .int .i64, .int .i64, .int .i64, .list .str])], true, fun ps => (nth ps 0).L.length ≤ 1048576 ∧ ∀ e ∈ (nth ps 0).L, (nth e.A 6).L.length ≤ 1048576, fun ps => [.list (nth ps 0).L], fun _ => []⟩
theorem k_toClientS : FnOk Tryz.prog 59 c_toClientS := by
  refine fn_mk [0, 2, 3, 4] [.tmp 2] (env_cons (cs := []) k_toClient (env_nil (tyTab_ok []))) mixed Tryz.func59 rfl (by decide) rfl (by decide) rfl ?_
  intro ps hT hpre W hW
  simp only [c_toClientS, TyA, Ty, Tys] at hT hpre
  obtain ⟨_, _, rfl, ⟨es, rfl, hes, tes⟩, rfl⟩ := hT
  simp only [nth_zero, pv_L] at hpre
  refine hW.vc [] _ _ ?_
  simp [-List.getD_eq_getElem?_getD, c_toClientS, c_toClient]
  refine fun h1 => ⟨by omega, hW.loopS _ _ _ [.sl 3 .dp (.list (.agg [.int .i64, .str, .str, .int .i64, .int .i64, .int .i64, .list .str])), .sl 4 .dp (.int .i64)] (fun ys => ∃ (out : List PV) (i : Nat), ys = [.list out, .int .i64 i] ∧ i ≤ es.length ∧ out.length = es.length ∧ out.take i = es.take i) (fun ys => es.length - (nth ys 1).I.toNat) ?_ ?_⟩
  · simp [-List.getD_eq_getElem?_getD, c_toClientS, c_toClient]
    exact ⟨_, 0, ⟨rfl, rfl⟩, by simp, by simp, by simp⟩
  · rintro ys ⟨out, i, rfl, h2, h3, h4⟩
    refine hW.vc [] _ _ ?_
    simp [-List.getD_eq_getElem?_getD, c_toClientS, c_toClient]
    refine fun _ => ⟨fun h5 => ⟨h5, ?_⟩, fun h5 => ?_⟩
    · intros
      have hq := hpre.2 _ (nth_mem h5)
      obtain ⟨_, he, _, _, rfl, ⟨_, rfl, _⟩, _, _, rfl, ⟨_, rfl, _⟩, _, _, rfl, ⟨_, rfl, _⟩, _, _, rfl, ⟨_, rfl, _⟩, _, _, rfl, ⟨_, rfl, _⟩, _, _, rfl, ⟨_, rfl, _⟩, _, _, rfl, ⟨_, rfl, _, _⟩, rfl⟩ := tes _ (nth_mem h5)
      rw [wrap64 (n := (i : Int) + 1) (by omega)]
      refine ⟨hq, by omega, ?_⟩
      refine ⟨⟨_, i + 1, ⟨rfl, by omega⟩, by omega, by simp [h3], set_take h4 h3 h5 (by rw [he]; rfl)⟩, by omega⟩
    · rw [List.take_of_length_le (by omega), List.take_of_length_le (by omega)] at h4
      exact h4
def c_toWorld : FSpec := ⟨[(.rd, .agg [.int .i64, .int .i64, .list (.agg [.int .i64, .int .i64, .int .i64, .int .i64, .int .i64, .bool, .list (.agg [.int .i64, .str]), .int .i64, .int .i64, .int .i64, .list (.int .i64), .list (.int .i64), .list (.int .i64)]), .list (.agg [.str, .int .i64]), .list (.agg [.int .i64, .int .i64, .int .i64, .int .i64, .int .i64, .int .i64, .int .i64, .bool, .list (.agg [.int .i64, .str])]), .list .str, .list (.agg [.int .i64, .str, .str, .int .i64, .int .i64, .int .i64, .list .str])])], [.agg [.int .i64, .int .i64, .list (.agg [.int .i64, .int .i64, .int .i64, .int .i64, .int .i64, .bool, .list (.agg [.int .i64, .str]), .int .i64, .int .i64, .int .i64, .list (.int .i64), .list (.int .i64), .list (.int .i64)]), .list (.agg [.str, .int .i64]), .list (.agg [.int .i64, .int .i64, .int .i64, .int .i64, .int .i64, .int .i64, .int .i64, .bool, .list (.agg [.int .i64, .str])]), .list .str, .list (.agg [.int .i64, .str, .str, .int .i64, .int .i64, .int .i64, .list .str])]], true, fun ps => worSm (nth ps 0).A, fun ps => [nth ps 0], fun _ => []⟩
theorem k_toWorld : FnOk Tryz.prog 25 c_toWorld := by
  refine fn_mk [0, 1, 2, 3] [.cell 2 50] (env_cons (cs := []) k_toClientS (env_cons (cs := []) k_toCluster (env_nil (tyTab_ok [])))) mixed Tryz.func25 rfl (by decide) rfl (by decide) rfl ?_
  intro ps hT hpre W hW
  simp only [c_toWorld, TyA, Ty, Tys] at hT hpre
  obtain ⟨_, _, rfl, ⟨_, rfl, _, _, rfl, ⟨ww, rfl, hww⟩, _, _, rfl, ⟨wh, rfl, hwh⟩, _, _, rfl, ⟨ns, rfl, hns, tns⟩, _, _, rfl, ⟨ss, rfl, hss, tss⟩, _, _, rfl, ⟨ws, rfl, hws, tws⟩, _, _, rfl, ⟨ds, rfl, hds, tds⟩, _, _, rfl, ⟨cs, rfl, hcs, tcs⟩, rfl⟩, rfl⟩ := hT
  simp only [nth_zero, nth_succ, pv_A, pv_L, worSm] at hpre
  refine hW.vc [] _ _ ?_
  simp [-List.getD_eq_getElem?_getD, c_toWorld, c_toCluster, c_toClientS]
  exact hpre
end Go.Proofs.YtkofjkjcbljkdaaGreatDoor
end

section
namespace Go.Proofs.YtkofjkjcbljkdaaGreatDoor
variable [LaidG]
set_option maxRecDepth 100000
set_option linter.unusedSimpArgs false
end Go.Proofs.YtkofjkjcbljkdaaGreatDoor
end

section
namespace Go.Proofs.YtkofjkjcbljkdaaGreatDoor
variable [LaidG]
set_option maxRecDepth 100000
set_option linter.unusedSimpArgs false
def eqCl2 (a b : PV) : Bool := eqCli a.A b.A
theorem eqCls_refl (es : List PV) : eqL eqCl2 es es = true := eqL_refl fun _ => eqCli_refl _
def c_eqClientS : FSpec := ⟨[(.rd, .list (.agg [.int .i64, .str, .str, .int .i64, .int .i64, .int .i64, .list .str])), (.rd, .list (.agg [.int .i64, .str, .str, .int .i64, .int .i64, .int .i64, .list .str]))], [.bool], true, fun _ => True, fun ps => [.bool (eqL eqCl2 (nth ps 0).L (nth ps 1).L)], fun _ => []⟩
theorem k_eqClientS : FnOk Tryz.prog 48 c_eqClientS := by
  refine fn_mk [0, 1, 4, 5] [.tmp 4] (env_cons (cs := []) k_eqClient (env_nil (tyTab_ok []))) mixed Tryz.func48 rfl (by decide) rfl (by decide) rfl ?_
  intro ps hT hpre W hW
  simp only [c_eqClientS, TyA, Ty, Tys] at hT hpre
  obtain ⟨_, _, rfl, ⟨es, rfl, hes, tes⟩, _, _, rfl, ⟨es2, rfl, hes2, tes2⟩, rfl⟩ := hT
  refine hW.vc [(6, [], .take 0 <| .take 1 <| .take 2 <| .take 3 <| .take 4 <| .take 5 <| .take 6 <| .take 7 <| .alt 8 (.take 9 <| .done) .stop)] _ _ ?_
  simp [-List.getD_eq_getElem?_getD, c_eqClientS, c_eqClient]
  refine fun h1 h2 => ⟨fun h3 => eqL_len (by omega), fun h3 => ?_⟩
  refine hW.loopS _ _ _ [.sl 5 .dp (.int .i64)] (fun ys => ∃ i : Nat, ys = [.int .i64 i] ∧ i ≤ es.length ∧ eqL eqCl2 es es2 = eqL eqCl2 (es.drop i) (es2.drop i)) (fun ys => es.length - (nth ys 0).I.toNat) ?_ ?_
  · simp [-List.getD_eq_getElem?_getD, c_eqClientS, c_eqClient]
    exact ⟨0, rfl, by simp, by simp⟩
  · rintro ys ⟨i, rfl, h4, h5⟩
    refine hW.vc [(6, [], .take 0 <| .take 1 <| .take 2 <| .take 3 <| .take 4 <| .take 5 <| .take 6 <| .take 7 <| .alt 8 (.take 9 <| .done) .stop)] _ _ ?_
    simp [-List.getD_eq_getElem?_getD, c_eqClientS, c_eqClient]
    refine fun _ => ⟨fun h6 => ⟨by decide +kernel, h6, ?_⟩, fun h6 => ?_⟩
    · intros
      refine ⟨by omega, ?_⟩
      intros
      rw [drop_nth h6, drop_nth (by omega : i < es2.length), eqL] at h5
      rw [wrap64 (n := (i : Int) + 1) (by omega)]
      refine ⟨fun h7 => ?_, fun h7 => ⟨⟨i + 1, by omega, by omega, ?_⟩, by omega⟩⟩
      · have h8 : eqCl2 (nth es i) (nth es2 i) = false := h7
        rw [h5, h8]; rfl
      · have h8 : eqCl2 (nth es i) (nth es2 i) = true := h7
        rw [h5, h8, Bool.true_and]
    · rw [h5, List.drop_eq_nil_of_le h6, List.drop_eq_nil_of_le (by omega)]; rfl
def eqWor (a b : List PV) : Bool := (nth a 0).I == (nth b 0).I && (nth a 1).I == (nth b 1).I && eqClu [nth a 2, nth a 3, nth a 4, nth a 5] [nth b 2, nth b 3, nth b 4, nth b 5] && eqL eqCl2 (nth a 6).L (nth b 6).L
theorem eqWor_refl (a : List PV) : eqWor a a = true := by simp [eqWor, eqClu_refl, eqCls_refl]
def c_eqWorld : FSpec := ⟨[(.rd, .agg [.int .i64, .int .i64, .list (.agg [.int .i64, .int .i64, .int .i64, .int .i64, .int .i64, .bool, .list (.agg [.int .i64, .str]), .int .i64, .int .i64, .int .i64, .list (.int .i64), .list (.int .i64), .list (.int .i64)]), .list (.agg [.str, .int .i64]), .list (.agg [.int .i64, .int .i64, .int .i64, .int .i64, .int .i64, .int .i64, .int .i64, .bool, .list (.agg [.int .i64, .str])]), .list .str, .list (.agg [.int .i64, .str, .str, .int .i64, .int .i64, .int .i64, .list .str])]), (.rd, .agg [.int .i64, .int .i64, .list (.agg [.int .i64, .int .i64, .int .i64, .int .i64, .int .i64, .bool, .list (.agg [.int .i64, .str]), .int .i64, .int .i64, .int .i64, .list (.int .i64), .list (.int .i64), .list (.int .i64)]), .list (.agg [.str, .int .i64]), .list (.agg [.int .i64, .int .i64, .int .i64, .int .i64, .int .i64, .int .i64, .int .i64, .bool, .list (.agg [.int .i64, .str])]), .list .str, .list (.agg [.int .i64, .str, .str, .int .i64, .int .i64, .int .i64, .list .str])])], [.bool], true, fun _ => True, fun ps => [.bool (eqWor (nth ps 0).A (nth ps 1).A)], fun _ => []⟩
theorem k_eqWorld : FnOk Tryz.prog 20 c_eqWorld := by
  refine fn_mk [0, 1, 2, 3, 4] [.tmp 4] (env_cons (cs := []) k_eqClientS (env_cons (cs := []) k_eqCluster (env_nil (tyTab_ok [])))) mixed Tryz.func20 rfl (by decide) rfl (by decide) rfl ?_
  intro ps hT hpre W hW
  simp only [c_eqWorld, TyA, Ty, Tys] at hT hpre
  obtain ⟨_, _, rfl, ⟨_, rfl, _, _, rfl, ⟨ww, rfl, hww⟩, _, _, rfl, ⟨wh, rfl, hwh⟩, _, _, rfl, ⟨ns, rfl, hns, tns⟩, _, _, rfl, ⟨ss, rfl, hss, tss⟩, _, _, rfl, ⟨ws, rfl, hws, tws⟩, _, _, rfl, ⟨ds, rfl, hds, tds⟩, _, _, rfl, ⟨cs, rfl, hcs, tcs⟩, rfl⟩, _, _, rfl, ⟨_, rfl, _, _, rfl, ⟨ww', rfl, hww'⟩, _, _, rfl, ⟨wh', rfl, hwh'⟩, _, _, rfl, ⟨ns', rfl, hns', tns'⟩, _, _, rfl, ⟨ss', rfl, hss', tss'⟩, _, _, rfl, ⟨ws', rfl, hws', tws'⟩, _, _, rfl, ⟨ds', rfl, hds', tds'⟩, _, _, rfl, ⟨cs', rfl, hcs', tcs'⟩, rfl⟩, rfl⟩ := hT
  refine hW.vc [] _ _ ?_
  simp [-List.getD_eq_getElem?_getD, c_eqWorld, c_eqCluster, c_eqClientS]
  simp only [eqWor, nth_zero, nth_succ, pv_I, pv_L]
  exact ⟨fun q1 => by simp [q1], fun q1 => ⟨fun q2 => by simp [q2], fun q2 => ⟨fun q3 => by simp [q3], fun q3 => ⟨fun q4 => by simp [q4], fun q4 => by simp [q1, q2, q3, q4]⟩⟩⟩⟩
end Go.Proofs.YtkofjkjcbljkdaaGreatDoor
end

section
namespace Go.Proofs.YtkofjkjcbljkdaaGreatDoor
variable [LaidG]
set_option maxRecDepth 100000
set_option linter.unusedSimpArgs false
end Go.Proofs.YtkofjkjcbljkdaaGreatDoor
end

section
namespace Go.Proofs.YtkofjkjcbljkdaaGreatDoor
variable [LaidG]
set_option maxRecDepth 100000
set_option linter.unusedSimpArgs false
end Go.Proofs.YtkofjkjcbljkdaaGreatDoor
end

section
namespace Go.Proofs.YtkofjkjcbljkdaaGreatDoor
variable [LaidG]
set_option maxRecDepth 100000
set_option linter.unusedSimpArgs false
end Go.Proofs.YtkofjkjcbljkdaaGreatDoor
end

section
namespace Go.Proofs.YtkofjkjcbljkdaaGreatDoor
variable [LaidG]
set_option maxRecDepth 100000
set_option linter.unusedSimpArgs false
def rotI (x by_ : Int) : Int := orI .u32 (shlI .u32 x (32 - by_)) (shrI .u32 x by_)
theorem orI_comm (k : IntKind) (a b : Int) : orI k a b = orI k b a := by unfold orI; rw [BitVec.or_comm]
def c_Rotate : FSpec := ⟨[(.rd, .int .u32), (.rd, .int .i64)], [.int .u32], true, fun ps => -32 < (nth ps 1).I ∧ (nth ps 1).I < 0, fun ps => [.int .u32 (rotI (nth ps 0).I (-(nth ps 1).I))], fun _ => []⟩
theorem k_Rotate : FnOk Tryz.prog 280 c_Rotate := by
  refine fn_mk [0, 1, 4, 5] [.tmp 4] (env_nil (tyTab_ok [])) mixed Tryz.func280 rfl (by decide) rfl (by decide) rfl ?_
  intro ps hT hpre W hW
  simp only [c_Rotate, TyA, Ty, Tys] at hT hpre
  obtain ⟨_, _, rfl, ⟨x, rfl, hx⟩, _, _, rfl, ⟨b, rfl, hb⟩, rfl⟩ := hT
  simp only [nth_zero, nth_succ, pv_I] at hpre
  obtain ⟨p1, p2⟩ := hpre
  have key : ∀ n : Fin 32, 0 < n.1 → andI .u64 (IntKind.u64.wrap (-(n.1 : Int))) 31 = 32 - n.1 := by decide
  have h1 := key ⟨(-b).toNat, by omega⟩ (by simp only; omega)
  simp only at h1
  have e : (((-b).toNat : Nat) : Int) = -b := by omega
  rw [e, Int.neg_neg] at h1
  refine hW.vc [] _ _ ?_
  simp [-List.getD_eq_getElem?_getD, c_Rotate]
  rw [h1, wrapU64 (by omega)]
  have e3 : (32 : Int) - (32 - -b) = -b := by omega
  rw [e3]
  exact ⟨by omega, by omega, rfl⟩
def c_turned : FSpec := ⟨[(.rd, .int .u32), (.rd, .int .i64)], [.int .u32], true, fun ps => 0 < (nth ps 1).I ∧ (nth ps 1).I < 32, fun ps => [.int .u32 (rotI (nth ps 0).I (nth ps 1).I)], fun _ => []⟩
theorem k_turned : FnOk Tryz.prog 272 c_turned := by
  refine fn_mk [0, 1, 4] [.tmp 4] (env_cons (cs := []) k_Rotate (env_nil (tyTab_ok []))) mixed Tryz.func272 rfl (by decide) rfl (by decide) rfl ?_
  intro ps hT hpre W hW
  simp only [c_turned, TyA, Ty, Tys] at hT hpre
  obtain ⟨_, _, rfl, ⟨x, rfl, hx⟩, _, _, rfl, ⟨b, rfl, hb⟩, rfl⟩ := hT
  simp only [nth_zero, nth_succ, pv_I] at hpre
  obtain ⟨p1, p2⟩ := hpre
  refine hW.vc [] _ _ ?_
  simp [-List.getD_eq_getElem?_getD, c_turned, c_Rotate]
  rw [wrap64 (by omega), Int.neg_neg]
  exact ⟨⟨by omega, by omega⟩, rfl⟩
def c_l01Turn : FSpec := ⟨[(.rd, .int .u32), (.rd, .int .u64)], [.int .u32], true, fun ps => 0 < (nth ps 1).I ∧ (nth ps 1).I < 32, fun ps => [.int .u32 (rotI (nth ps 0).I (nth ps 1).I)], fun _ => []⟩
theorem k_l01Turn : FnOk Tryz.prog 260 c_l01Turn := by
  refine fn_mk [0, 1, 4] [.tmp 4] (env_nil (tyTab_ok [])) mixed Tryz.func260 rfl (by decide) rfl (by decide) rfl ?_
  intro ps hT hpre W hW
  simp only [c_l01Turn, TyA, Ty, Tys] at hT hpre
  obtain ⟨_, _, rfl, ⟨x, rfl, hx⟩, _, _, rfl, ⟨b, rfl, hb⟩, rfl⟩ := hT
  simp only [nth_zero, nth_succ, pv_I] at hpre
  obtain ⟨p1, p2⟩ := hpre
  refine hW.vc [] _ _ ?_
  simp [-List.getD_eq_getElem?_getD, c_l01Turn]
  rw [wrapU64 (by omega)]
  exact ⟨by omega, by omega, by rw [rotI, orI_comm]⟩
end Go.Proofs.YtkofjkjcbljkdaaGreatDoor
end

section
namespace Go.Proofs.YtkofjkjcbljkdaaGreatDoor
variable [LaidG]
set_option maxRecDepth 100000
set_option linter.unusedSimpArgs false
def w32 (n : Int) : Int := IntKind.u32.wrap n
def notI (x : Int) : Int := xorI .u32 4294967295 x
def sgm (x a b c : Int) : Int := xorI .u32 (xorI .u32 (rotI x a) (rotI x b)) (rotI x c)
def sgs (x a b c : Int) : Int := xorI .u32 (xorI .u32 (rotI x a) (rotI x b)) (shrI .u32 x c)
def chI (e f g : Int) : Int := orI .u32 (andI .u32 e f) (andI .u32 (notI e) g)
def majI (a b c : Int) : Int := orI .u32 (orI .u32 (andI .u32 a b) (andI .u32 a c)) (andI .u32 b c)
theorem bv_u32 (x : BitVec 32) : BitVec.ofInt 32 (IntKind.u32.wrap (x.toNat : Int)) = x := by
  have h : IntKind.u32.wrap (x.toNat : Int) = x.toNat := by
    have := x.isLt
    simp [IntKind.wrap, IntKind.signed, IntKind.bits]; omega
  rw [h]; simp
theorem xor32 (a b : Int) : xorI .u32 a b = IntKind.u32.wrap ((BitVec.ofInt 32 a ^^^ BitVec.ofInt 32 b).toNat : Int) := rfl
theorem or32 (a b : Int) : orI .u32 a b = IntKind.u32.wrap ((BitVec.ofInt 32 a ||| BitVec.ofInt 32 b).toNat : Int) := rfl
theorem and32 (a b : Int) : andI .u32 a b = IntKind.u32.wrap ((BitVec.ofInt 32 a &&& BitVec.ofInt 32 b).toNat : Int) := rfl
theorem ch_xor (e f g : Int) : xorI .u32 (andI .u32 e f) (andI .u32 (notI e) g) = chI e f g := by
  simp only [chI, notI, xor32, or32, and32, bv_u32]
  refine congrArg (fun x : BitVec 32 => IntKind.u32.wrap (x.toNat : Int)) ?_
  ext i hi
  simp only [BitVec.getElem_xor, BitVec.getElem_or, BitVec.getElem_and]
  have hm : (BitVec.ofInt 32 4294967295)[i] = true := by
    have : BitVec.ofInt 32 4294967295 = BitVec.allOnes 32 := by decide
    rw [this, BitVec.getElem_allOnes]
  rw [hm]
  cases (BitVec.ofInt 32 e)[i] <;> cases (BitVec.ofInt 32 f)[i] <;> cases (BitVec.ofInt 32 g)[i] <;> rfl
theorem maj_xor (a b c : Int) : xorI .u32 (xorI .u32 (andI .u32 a b) (andI .u32 a c)) (andI .u32 b c) = majI a b c := by
  simp only [majI, xor32, or32, and32, bv_u32]
  refine congrArg (fun x : BitVec 32 => IntKind.u32.wrap (x.toNat : Int)) ?_
  ext i hi
  simp only [BitVec.getElem_xor, BitVec.getElem_or, BitVec.getElem_and]
  cases (BitVec.ofInt 32 a)[i] <;> cases (BitVec.ofInt 32 b)[i] <;> cases (BitVec.ofInt 32 c)[i] <;> rfl
def wrdI (f : Nat → Int) (j : Nat) : Int := orI .u32 (orI .u32 (orI .u32 (shlI .u32 (f (4 * j)) 24) (shlI .u32 (f (4 * j + 1)) 16)) (shlI .u32 (f (4 * j + 2)) 8)) (f (4 * j + 3))
def nxtI (l : List PV) (n : Nat) : Int := w32 (w32 (w32 ((nth l (n - 16)).I + sgs (nth l (n - 15)).I 7 18 3) + (nth l (n - 7)).I) + sgs (nth l (n - 2)).I 17 19 10)
def schP (f : Nat → Int) : Nat → List PV
  | 0 => []
  | n + 1 => schP f n ++ [.int .u32 (if n < 16 then wrdI f n else nxtI (schP f n) n)]
theorem schP_len (f : Nat → Int) : ∀ n, (schP f n).length = n
  | 0 => rfl
  | n + 1 => by rw [schP, List.length_append, schP_len f n]; rfl
structure S8 where
  a : Int
  b : Int
  c : Int
  d : Int
  e : Int
  f : Int
  g : Int
  h : Int
def S8.p (s : S8) (k w : Int) : Int := w32 (w32 (w32 (w32 (s.h + sgm s.e 6 11 25) + chI s.e s.f s.g) + k) + w)
def S8.q (s : S8) : Int := w32 (sgm s.a 2 13 22 + majI s.a s.b s.c)
def S8.step (s : S8) (k w : Int) : S8 := ⟨w32 (s.p k w + s.q), s.a, s.b, s.c, w32 (s.d + s.p k w), s.e, s.f, s.g⟩
def S8.pv (s : S8) : List PV := [.int .u32 s.a, .int .u32 s.b, .int .u32 s.c, .int .u32 s.d, .int .u32 s.e, .int .u32 s.f, .int .u32 s.g, .int .u32 s.h]
def s8Of (v : List PV) : S8 := ⟨(nth v 0).I, (nth v 1).I, (nth v 2).I, (nth v 3).I, (nth v 4).I, (nth v 5).I, (nth v 6).I, (nth v 7).I⟩
def rnds (K W : List PV) (s : S8) : Nat → S8
  | 0 => s
  | n + 1 => (rnds K W s n).step (nth K n).I (nth W n).I
def addP (v r : List PV) : Nat → List PV
  | 0 => []
  | n + 1 => addP v r n ++ [.int .u32 (w32 ((nth v n).I + (nth r n).I))]
theorem addP_len (v r : List PV) : ∀ n, (addP v r n).length = n
  | 0 => rfl
  | n + 1 => by rw [addP, List.length_append, addP_len v r n]; rfl
def blkP (K : List PV) (v : List PV) (f : Nat → Int) : List PV := addP v (rnds K (schP f 64) (s8Of v) 64).pv 8
theorem blkP_len (K v : List PV) (f : Nat → Int) : (blkP K v f).length = 8 := addP_len _ _ 8
theorem set_at {l : List PV} {z x : PV} {i m : Nat} (hl : l.length = i) (hm : i < m) : (l ++ List.replicate (m - i) z).set i x = (l ++ [x]) ++ List.replicate (m - (i + 1)) z := by
  have e : m - i = (m - (i + 1)) + 1 := by omega
  rw [e, List.replicate_succ, List.set_append_right _ _ (by omega), hl, Nat.sub_self, List.set_cons_zero, List.append_assoc]
  rfl
theorem nth_left {l r : List PV} {i : Nat} (h : i < l.length) : nth (l ++ r) i = nth l i := by simp [nth, List.getElem?_append_left h]
theorem drop_set {a st : List PV} {x : PV} {i : Nat} (ha : a.length = i) (hi : i < st.length) : (a ++ st.drop i).set i x = (a ++ [x]) ++ st.drop (i + 1) := by
  rw [drop_nth hi, List.set_append_right _ _ (by omega), ha, Nat.sub_self, List.set_cons_zero, List.append_assoc]; rfl
theorem drop_at {a st : List PV} {i : Nat} (ha : a.length = i) (hi : i < st.length) : nth (a ++ st.drop i) i = nth st i := by
  rw [drop_nth hi, ← ha]; simp [nth]
theorem pv_getD (s : S8) : ∀ {i : Nat}, i < 8 → [s.a, s.b, s.c, s.d, s.e, s.f, s.g, s.h].getD i 0 = (nth s.pv i).I
  | 0, _ | 1, _ | 2, _ | 3, _ | 4, _ | 5, _ | 6, _ | 7, _ => rfl
  | n + 8, h => by omega
end Go.Proofs.YtkofjkjcbljkdaaGreatDoor
end

section
namespace Go.Proofs.YtkofjkjcbljkdaaGreatDoor
variable [LaidG]
variable [LaidN 3] [LaidN 4]
set_option maxRecDepth 100000
set_option linter.unusedSimpArgs false
def byteF (l : List UInt8) (k : Nat) : Int := ((l.getD k 0).toNat : Int)
theorem wB (x : UInt8) : IntKind.u32.wrap (x.toNat : Int) = x.toNat := by
  have := x.toNat_lt
  simp [IntKind.wrap, IntKind.signed, IntKind.bits]; omega
def c_hashBlock : FSpec := ⟨[(.bx, .abx (.int .u32)), (.rd, .str)], [], true, fun ps => (nth ps 0).L.length = 8 ∧ (nth ps 1).S.length = 64, fun _ => [], fun ps => [.list (blkP G4 (nth ps 0).L (byteF (nth ps 1).S))]⟩
set_option maxHeartbeats 4000000 in
theorem k_hashBlock : FnOk Tryz.prog 259 c_hashBlock := by
  refine fn_mk [0, 1, 4, 5, 6, 7, 8, 9, 10, 11, 12, 13, 14, 15, 16, 17, 18, 19, 20, 21, 127, 198, 199] [] (env_cons (cs := []) k_turned (env_nil (tyTab_ok []))) mixed Tryz.func259 rfl (by decide) rfl (by decide) rfl ?_
  intro ps hT hpre W hW
  simp only [c_hashBlock, TyA, Ty, Tys] at hT hpre
  obtain ⟨_, _, rfl, ⟨st, rfl, tst⟩, _, _, rfl, ⟨b, rfl, hb⟩, rfl⟩ := hT
  simp only [nth_zero, nth_succ, pv_L, pv_S] at hpre
  obtain ⟨p1, p2⟩ := hpre
  refine hW.vc [] _ _ ?_
  simp [-List.getD_eq_getElem?_getD, c_hashBlock, c_turned]
  refine hW.cutS [_, _] _ _ [.ax 4, .sl 21 .dp (.int .i64)] (fun ys => ys = [.list (schP (byteF b) 64), .int .i64 64]) ?_ ?_
  · refine hW.loopS _ _ _ [.ax 4, .sl 21 .dp (.int .i64)] (fun ys => ∃ i : Nat, ys = [.list (schP (byteF b) i ++ List.replicate (64 - i) (.int .u32 0)), .int .i64 i] ∧ i ≤ 64) (fun ys => 64 - (nth ys 1).I.toNat) ?_ ?_
    · simp [-List.getD_eq_getElem?_getD, c_hashBlock, c_turned]
      exact ⟨0, ⟨rfl, rfl⟩, by omega⟩
    · rintro ys ⟨i, rfl, g1⟩
      refine hW.vc [(5, [31], .take 0 <| .take 1 <| .take 2 <| .take 3 <| .take 4 <| .take 5 <| .take 6 <| .take 7 <| .take 8 <| .take 9 <| .take 10 <| .take 11 <| .take 12 <| .take 13 <| .take 14 <| .take 15 <| .take 16 <| .take 17 <| .take 18 <| .take 19 <| .take 20 <| .take 21 <| .take 22 <| .take 23 <| .take 24 <| .take 25 <| .take 26 <| .take 27 <| .take 28 <| .take 29 <| .take 30 <| .alt 31 (.done) .stop), (6, [], .take 0 <| .take 1 <| .take 2 <| .take 3 <| .take 4 <| .take 5 <| .take 6 <| .take 7 <| .alt 8 (.alt 9 (.done) .stop) .stop), (7, [29], .take 0 <| .take 1 <| .take 2 <| .take 3 <| .take 4 <| .take 5 <| .take 7 <| .take 10 <| .take 11 <| .take 14 <| .take 15 <| .take 16 <| .take 17 <| .take 19 <| .take 21 <| .take 24 <| .take 25 <| .alt 6 (.alt 8 (.take 9 <| .take 12 <| .take 13 <| .take 18 <| .alt 20 (.alt 22 (.take 23 <| .take 26 <| .take 27 <| .take 28 <| .alt 29 (.done) .stop) .stop) .stop) .stop) .stop), (9, [], .take 0 <| .take 1 <| .take 2 <| .take 3 <| .take 4 <| .take 5 <| .take 6 <| .take 7 <| .take 8 <| .take 9 <| .take 10 <| .take 11 <| .take 12 <| .take 13 <| .take 14 <| .take 15 <| .take 16 <| .take 17 <| .take 18 <| .take 19 <| .take 20 <| .take 21 <| .take 22 <| .take 23 <| .take 24 <| .take 25 <| .take 26 <| .take 27 <| .take 28 <| .take 29 <| .take 30 <| .take 31 <| .alt 32 (.alt 33 (.alt 34 (.alt 35 (.alt 36 (.alt 37 (.alt 38 (.alt 39 (.done) .stop) .stop) .stop) .stop) .stop) .stop) .stop) .stop), (13, [], .take 0 <| .take 1 <| .take 3 <| .take 6 <| .take 10 <| .take 11 <| .take 12 <| .take 13 <| .take 14 <| .take 15 <| .take 16 <| .take 17 <| .take 19 <| .take 20 <| .take 21 <| .take 23 <| .take 24 <| .take 25 <| .alt 2 (.alt 4 (.take 5 <| .alt 7 (.take 8 <| .take 9 <| .take 18 <| .take 22 <| .take 26 <| .alt 27 (.done) .stop) .stop) .stop) .stop), (20, [9], .take 0 <| .take 1 <| .take 2 <| .take 3 <| .take 4 <| .take 5 <| .take 6 <| .take 7 <| .take 8 <| .alt 9 (.done) .stop)] _ _ ?_
      simp [-List.getD_eq_getElem?_getD, c_hashBlock, c_turned]
      have hl := schP_len (byteF b) i
      have a0 : IntKind.i64.wrap (4 * (i : Int)) = ((4 * i : Nat) : Int) := by rw [wrap64 (by omega)]; omega
      have a1 : IntKind.i64.wrap (((4 * i : Nat) : Int) + 1) = ((4 * i + 1 : Nat) : Int) := by rw [wrap64 (by omega)]; omega
      have a2 : IntKind.i64.wrap (((4 * i : Nat) : Int) + 2) = ((4 * i + 2 : Nat) : Int) := by rw [wrap64 (by omega)]; omega
      have a3 : IntKind.i64.wrap (((4 * i : Nat) : Int) + 3) = ((4 * i + 3 : Nat) : Int) := by rw [wrap64 (by omega)]; omega
      rw [a0, a1, a2, a3]
      simp only [Int.toNat_natCast, wB]
      refine ⟨fun h64 => ⟨fun h16 => ?_, fun h16 => ?_⟩, fun h64 => ?_⟩
      · refine ⟨by decide +kernel, ⟨by omega, by omega⟩, ⟨by omega, by omega⟩, ⟨by omega, by omega⟩, ⟨by omega, by omega⟩, ⟨h64, by omega⟩, by omega, ⟨i + 1, ⟨?_, wrap64 (by omega)⟩, by omega⟩, by rw [wrap64 (by omega)]; omega⟩
        rw [set_at hl (by omega), schP, if_pos (by omega)]
        rfl
      · have c15 : IntKind.i64.wrap ((i : Int) - 15) = ((i - 15 : Nat) : Int) := by rw [wrap64 (by omega)]; omega
        have c2 : IntKind.i64.wrap ((i : Int) - 2) = ((i - 2 : Nat) : Int) := by rw [wrap64 (by omega)]; omega
        have c16 : IntKind.i64.wrap ((i : Int) - 16) = ((i - 16 : Nat) : Int) := by rw [wrap64 (by omega)]; omega
        have c7 : IntKind.i64.wrap ((i : Int) - 7) = ((i - 7 : Nat) : Int) := by rw [wrap64 (by omega)]; omega
        rw [c15, c2, c16, c7]
        simp only [Int.toNat_natCast]
        rw [nth_left (by omega : i - 15 < (schP (byteF b) i).length), nth_left (by omega : i - 2 < (schP (byteF b) i).length), nth_left (by omega : i - 16 < (schP (byteF b) i).length), nth_left (by omega : i - 7 < (schP (byteF b) i).length)]
        refine ⟨by decide +kernel, ⟨by omega, by omega, by omega⟩, by omega, fun _ => ⟨⟨by omega, by omega, by omega⟩, by omega, fun _ => ⟨by decide +kernel, ⟨by omega, by omega, by omega⟩, by omega, fun _ => ⟨⟨by omega, by omega, by omega⟩, by omega, fun _ => ⟨⟨h64, by omega⟩, by omega, ⟨i + 1, ⟨?_, wrap64 (by omega)⟩, by omega⟩, by rw [wrap64 (by omega)]; omega⟩⟩⟩⟩⟩
        rw [set_at hl (by omega), schP, if_neg (by omega)]
        rfl
      · have e : i = 64 := by omega
        subst e
        exact ⟨by simp, rfl⟩
  · rintro ys rfl
    refine hW.vc [(9, [], .take 0 <| .take 1 <| .take 2 <| .take 3 <| .take 4 <| .take 5 <| .take 6 <| .take 7 <| .take 8 <| .take 9 <| .take 10 <| .take 11 <| .take 12 <| .take 13 <| .take 14 <| .take 15 <| .take 16 <| .take 17 <| .take 18 <| .take 19 <| .take 20 <| .take 21 <| .take 22 <| .take 23 <| .take 24 <| .take 25 <| .take 26 <| .take 27 <| .take 28 <| .take 29 <| .take 30 <| .take 31 <| .alt 32 (.alt 33 (.alt 34 (.alt 35 (.alt 36 (.alt 37 (.alt 38 (.alt 39 (.done) .stop) .stop) .stop) .stop) .stop) .stop) .stop) .stop)] _ _ ?_
    simp [-List.getD_eq_getElem?_getD, c_hashBlock, c_turned]
    refine ⟨by decide +kernel, by omega, by omega, fun _ => ⟨by omega, by omega, fun _ => ⟨by omega, by omega, fun _ => ⟨by omega, by omega, fun _ => ⟨by omega, by omega, fun _ => ⟨by omega, by omega, fun _ => ⟨by omega, by omega, fun _ => ⟨by omega, by omega, fun _ => ?_⟩⟩⟩⟩⟩⟩⟩⟩
    obtain ⟨W64, hW64⟩ : ∃ L, L = schP (byteF b) 64 := ⟨_, rfl⟩
    have wl : W64.length = 64 := by rw [hW64, schP_len]
    obtain ⟨rs, hrs⟩ : ∃ rs : Nat → S8, rs = rnds G4 W64 (s8Of st) := ⟨_, rfl⟩
    have hr0 : rs 0 = s8Of st := by rw [hrs]; rfl
    have hrS : ∀ i, rs (i + 1) = (rs i).step (nth G4 i).I (nth W64 i).I := fun i => by rw [hrs]; rfl
    rw [← hW64]
    refine hW.cutS [_, _] _ _ [.sl 8 .dp (.int .u32), .sl 9 .dp (.int .u32), .sl 10 .dp (.int .u32), .sl 11 .dp (.int .u32), .sl 12 .dp (.int .u32), .sl 13 .dp (.int .u32), .sl 14 .dp (.int .u32), .sl 15 .dp (.int .u32), .sl 127 .dp (.int .i64)]
      (fun ys => ys = [.int .u32 (rs 64).a, .int .u32 (rs 64).b, .int .u32 (rs 64).c, .int .u32 (rs 64).d, .int .u32 (rs 64).e, .int .u32 (rs 64).f, .int .u32 (rs 64).g, .int .u32 (rs 64).h, .int .i64 64]) ?_ ?_
    · refine hW.loopS _ _ _ [.sl 8 .dp (.int .u32), .sl 9 .dp (.int .u32), .sl 10 .dp (.int .u32), .sl 11 .dp (.int .u32), .sl 12 .dp (.int .u32), .sl 13 .dp (.int .u32), .sl 14 .dp (.int .u32), .sl 15 .dp (.int .u32), .sl 127 .dp (.int .i64)]
        (fun ys => ∃ i : Nat, ys = [.int .u32 (rs i).a, .int .u32 (rs i).b, .int .u32 (rs i).c, .int .u32 (rs i).d, .int .u32 (rs i).e, .int .u32 (rs i).f, .int .u32 (rs i).g, .int .u32 (rs i).h, .int .i64 i] ∧ i ≤ 64) (fun ys => 64 - (nth ys 8).I.toNat) ?_ ?_
      · simp [-List.getD_eq_getElem?_getD, c_hashBlock, c_turned]
        refine ⟨0, ?_, by omega⟩
        rw [hr0]
        and_intros <;> rfl
      · rintro ys ⟨i, rfl, g1⟩
        refine hW.vc [(5, [31], .take 0 <| .take 1 <| .take 2 <| .take 3 <| .take 4 <| .take 5 <| .take 6 <| .take 7 <| .take 8 <| .take 9 <| .take 10 <| .take 11 <| .take 12 <| .take 13 <| .take 14 <| .take 15 <| .take 16 <| .take 17 <| .take 18 <| .take 19 <| .take 20 <| .take 21 <| .take 22 <| .take 23 <| .take 24 <| .take 25 <| .take 26 <| .take 27 <| .take 28 <| .take 29 <| .take 30 <| .alt 31 (.done) .stop), (6, [], .take 0 <| .take 1 <| .take 2 <| .take 3 <| .take 4 <| .take 5 <| .take 6 <| .take 7 <| .alt 8 (.alt 9 (.done) .stop) .stop), (7, [29], .take 0 <| .take 1 <| .take 2 <| .take 3 <| .take 4 <| .take 5 <| .take 7 <| .take 10 <| .take 11 <| .take 14 <| .take 15 <| .take 16 <| .take 17 <| .take 19 <| .take 21 <| .take 24 <| .take 25 <| .alt 6 (.alt 8 (.take 9 <| .take 12 <| .take 13 <| .take 18 <| .alt 20 (.alt 22 (.take 23 <| .take 26 <| .take 27 <| .take 28 <| .alt 29 (.done) .stop) .stop) .stop) .stop) .stop), (9, [], .take 0 <| .take 1 <| .take 2 <| .take 3 <| .take 4 <| .take 5 <| .take 6 <| .take 7 <| .take 8 <| .take 9 <| .take 10 <| .take 11 <| .take 12 <| .take 13 <| .take 14 <| .take 15 <| .take 16 <| .take 17 <| .take 18 <| .take 19 <| .take 20 <| .take 21 <| .take 22 <| .take 23 <| .take 24 <| .take 25 <| .take 26 <| .take 27 <| .take 28 <| .take 29 <| .take 30 <| .take 31 <| .alt 32 (.alt 33 (.alt 34 (.alt 35 (.alt 36 (.alt 37 (.alt 38 (.alt 39 (.done) .stop) .stop) .stop) .stop) .stop) .stop) .stop) .stop), (13, [], .take 0 <| .take 1 <| .take 3 <| .take 6 <| .take 10 <| .take 11 <| .take 12 <| .take 13 <| .take 14 <| .take 15 <| .take 16 <| .take 17 <| .take 19 <| .take 20 <| .take 21 <| .take 23 <| .take 24 <| .take 25 <| .alt 2 (.alt 4 (.take 5 <| .alt 7 (.take 8 <| .take 9 <| .take 18 <| .take 22 <| .take 26 <| .alt 27 (.done) .stop) .stop) .stop) .stop), (20, [9], .take 0 <| .take 1 <| .take 2 <| .take 3 <| .take 4 <| .take 5 <| .take 6 <| .take 7 <| .take 8 <| .alt 9 (.done) .stop)] _ _ ?_
        simp [-List.getD_eq_getElem?_getD, c_hashBlock, c_turned]
        refine ⟨fun h => ⟨by decide +kernel, h, by omega, fun _ _ => ⟨⟨h, by omega⟩, by omega, fun _ => ⟨⟨i + 1, ?_, by omega⟩, by rw [wrap64 (by omega)]; omega⟩⟩⟩, fun h => ?_⟩
        · rw [hrS]
          and_intros
          all_goals first | rfl | exact wrap64 (by omega)
        · have e : i = 64 := by omega
          subst e
          and_intros <;> rfl
    · rintro ys rfl
      refine hW.vc [(5, [31], .take 0 <| .take 1 <| .take 2 <| .take 3 <| .take 4 <| .take 5 <| .take 6 <| .take 7 <| .take 8 <| .take 9 <| .take 10 <| .take 11 <| .take 12 <| .take 13 <| .take 14 <| .take 15 <| .take 16 <| .take 17 <| .take 18 <| .take 19 <| .take 20 <| .take 21 <| .take 22 <| .take 23 <| .take 24 <| .take 25 <| .take 26 <| .take 27 <| .take 28 <| .take 29 <| .take 30 <| .alt 31 (.done) .stop), (6, [], .take 0 <| .take 1 <| .take 2 <| .take 3 <| .take 4 <| .take 5 <| .take 6 <| .take 7 <| .alt 8 (.alt 9 (.done) .stop) .stop), (7, [29], .take 0 <| .take 1 <| .take 2 <| .take 3 <| .take 4 <| .take 5 <| .take 7 <| .take 10 <| .take 11 <| .take 14 <| .take 15 <| .take 16 <| .take 17 <| .take 19 <| .take 21 <| .take 24 <| .take 25 <| .alt 6 (.alt 8 (.take 9 <| .take 12 <| .take 13 <| .take 18 <| .alt 20 (.alt 22 (.take 23 <| .take 26 <| .take 27 <| .take 28 <| .alt 29 (.done) .stop) .stop) .stop) .stop) .stop), (9, [], .take 0 <| .take 1 <| .take 2 <| .take 3 <| .take 4 <| .take 5 <| .take 6 <| .take 7 <| .take 8 <| .take 9 <| .take 10 <| .take 11 <| .take 12 <| .take 13 <| .take 14 <| .take 15 <| .take 16 <| .take 17 <| .take 18 <| .take 19 <| .take 20 <| .take 21 <| .take 22 <| .take 23 <| .take 24 <| .take 25 <| .take 26 <| .take 27 <| .take 28 <| .take 29 <| .take 30 <| .take 31 <| .alt 32 (.alt 33 (.alt 34 (.alt 35 (.alt 36 (.alt 37 (.alt 38 (.alt 39 (.done) .stop) .stop) .stop) .stop) .stop) .stop) .stop) .stop), (13, [], .take 0 <| .take 1 <| .take 3 <| .take 6 <| .take 10 <| .take 11 <| .take 12 <| .take 13 <| .take 14 <| .take 15 <| .take 16 <| .take 17 <| .take 19 <| .take 20 <| .take 21 <| .take 23 <| .take 24 <| .take 25 <| .alt 2 (.alt 4 (.take 5 <| .alt 7 (.take 8 <| .take 9 <| .take 18 <| .take 22 <| .take 26 <| .alt 27 (.done) .stop) .stop) .stop) .stop), (20, [9], .take 0 <| .take 1 <| .take 2 <| .take 3 <| .take 4 <| .take 5 <| .take 6 <| .take 7 <| .take 8 <| .alt 9 (.done) .stop)] _ _ ?_
      simp [-List.getD_eq_getElem?_getD, c_hashBlock, c_turned]
      refine ⟨by decide, hW.loopS _ _ _ [.ax 0, .sl 199 .dp (.int .i64)] (fun ys => ∃ i : Nat, ys = [.list (addP st (rs 64).pv i ++ st.drop i), .int .i64 i] ∧ i ≤ 8) (fun ys => 8 - (nth ys 1).I.toNat) ?_ ?_⟩
      · simp [-List.getD_eq_getElem?_getD, c_hashBlock, c_turned]
        exact ⟨0, ⟨rfl, rfl⟩, by omega⟩
      · rintro ys ⟨i, rfl, g1⟩
        refine hW.vc [(5, [31], .take 0 <| .take 1 <| .take 2 <| .take 3 <| .take 4 <| .take 5 <| .take 6 <| .take 7 <| .take 8 <| .take 9 <| .take 10 <| .take 11 <| .take 12 <| .take 13 <| .take 14 <| .take 15 <| .take 16 <| .take 17 <| .take 18 <| .take 19 <| .take 20 <| .take 21 <| .take 22 <| .take 23 <| .take 24 <| .take 25 <| .take 26 <| .take 27 <| .take 28 <| .take 29 <| .take 30 <| .alt 31 (.done) .stop), (6, [], .take 0 <| .take 1 <| .take 2 <| .take 3 <| .take 4 <| .take 5 <| .take 6 <| .take 7 <| .alt 8 (.alt 9 (.done) .stop) .stop), (7, [29], .take 0 <| .take 1 <| .take 2 <| .take 3 <| .take 4 <| .take 5 <| .take 7 <| .take 10 <| .take 11 <| .take 14 <| .take 15 <| .take 16 <| .take 17 <| .take 19 <| .take 21 <| .take 24 <| .take 25 <| .alt 6 (.alt 8 (.take 9 <| .take 12 <| .take 13 <| .take 18 <| .alt 20 (.alt 22 (.take 23 <| .take 26 <| .take 27 <| .take 28 <| .alt 29 (.done) .stop) .stop) .stop) .stop) .stop), (9, [], .take 0 <| .take 1 <| .take 2 <| .take 3 <| .take 4 <| .take 5 <| .take 6 <| .take 7 <| .take 8 <| .take 9 <| .take 10 <| .take 11 <| .take 12 <| .take 13 <| .take 14 <| .take 15 <| .take 16 <| .take 17 <| .take 18 <| .take 19 <| .take 20 <| .take 21 <| .take 22 <| .take 23 <| .take 24 <| .take 25 <| .take 26 <| .take 27 <| .take 28 <| .take 29 <| .take 30 <| .take 31 <| .alt 32 (.alt 33 (.alt 34 (.alt 35 (.alt 36 (.alt 37 (.alt 38 (.alt 39 (.done) .stop) .stop) .stop) .stop) .stop) .stop) .stop) .stop), (13, [], .take 0 <| .take 1 <| .take 3 <| .take 6 <| .take 10 <| .take 11 <| .take 12 <| .take 13 <| .take 14 <| .take 15 <| .take 16 <| .take 17 <| .take 19 <| .take 20 <| .take 21 <| .take 23 <| .take 24 <| .take 25 <| .alt 2 (.alt 4 (.take 5 <| .alt 7 (.take 8 <| .take 9 <| .take 18 <| .take 22 <| .take 26 <| .alt 27 (.done) .stop) .stop) .stop) .stop), (20, [9], .take 0 <| .take 1 <| .take 2 <| .take 3 <| .take 4 <| .take 5 <| .take 6 <| .take 7 <| .take 8 <| .alt 9 (.done) .stop)] _ _ ?_
        simp [-List.getD_eq_getElem?_getD, c_hashBlock, c_turned]
        have al := addP_len st (rs 64).pv i
        refine ⟨fun h => ?_, fun h => ?_⟩
        · have h8 : i < 8 := by omega
          rw [drop_at al (by omega), pv_getD (rs 64) h8, drop_set al (by omega)]
          exact ⟨h, by decide +kernel, ⟨h, by omega⟩, by omega, fun _ => ⟨⟨h, by omega⟩, by omega, ⟨i + 1, ⟨rfl, wrap64 (by omega)⟩, by omega⟩, by rw [wrap64 (by omega)]; omega⟩⟩
        · have e : i = 8 := by omega
          subst e
          rw [List.drop_eq_nil_of_le (by omega), List.append_nil, blkP, hrs, hW64]
end Go.Proofs.YtkofjkjcbljkdaaGreatDoor
end

