/-
  Part 7 of the proof of FnExactNewWorld: a verification-condition generator over the program and the contracts of its functions, in the order of their use.
  Conditions: none.
-/
import Derived.Test.YtkofjkjcbljkdaaGreatDoorM6
import Derived.Shelf.Spec.SlicesInsertGrow
set_option linter.unusedVariables false
set_option linter.unusedSimpArgs false
set_option linter.unusedSectionVars false

section
namespace Go.Proofs.YtkofjkjcbljkdaaGreatDoor
variable [LaidG]
set_option maxRecDepth 100000
set_option linter.unusedSimpArgs false
def c_eqEntry : FSpec := ⟨[(.rd, .agg [.int .i64, .str]), (.rd, .agg [.int .i64, .str])], [.bool], true, fun _ => True, fun ps => [.bool (eqRow1 (nth ps 0).A (nth ps 1).A)], fun _ => []⟩
theorem k_eqEntry : FnOk Tryz.prog 224 c_eqEntry := by
  refine fn_mk [0, 1, 2, 3, 4] [.tmp 4] (env_nil (tyTab_ok [])) mixed Tryz.func224 rfl (by decide) rfl (by decide) rfl ?_
  intro ps hT hpre W hW
  simp only [c_eqEntry, TyA, Ty, Tys] at hT hpre
  obtain ⟨_, _, rfl, ⟨_, rfl, _, _, rfl, ⟨y, rfl, hy⟩, _, _, rfl, ⟨c, rfl, hc⟩, rfl⟩, _, _, rfl, ⟨_, rfl, _, _, rfl, ⟨y', rfl, hy'⟩, _, _, rfl, ⟨c', rfl, hc'⟩, rfl⟩, rfl⟩ := hT
  refine hW.vc [] _ _ ?_
  simp [-List.getD_eq_getElem?_getD, c_eqEntry]
  simp only [eqRow1, nth_zero, nth_succ, pv_I, pv_S]
  refine ⟨fun h1 => by simp [h1], fun h1 => ⟨fun h2 => by simp [h2], fun h2 => by simp [h1, h2]⟩⟩
def c_eqEntryS : FSpec := ⟨[(.rd, .list (.agg [.int .i64, .str])), (.rd, .list (.agg [.int .i64, .str]))], [.bool], true, fun _ => True, fun ps => [.bool (eqL eqRow2 (nth ps 0).L (nth ps 1).L)], fun _ => []⟩
theorem k_eqEntryS : FnOk Tryz.prog 181 c_eqEntryS := by
  refine fn_mk [0, 1, 4, 5] [.tmp 4] (env_cons (cs := []) k_eqEntry (env_nil (tyTab_ok []))) mixed Tryz.func181 rfl (by decide) rfl (by decide) rfl ?_
  intro ps hT hpre W hW
  simp only [c_eqEntryS, TyA, Ty, Tys] at hT hpre
  obtain ⟨_, _, rfl, ⟨es, rfl, hes, tes⟩, _, _, rfl, ⟨es2, rfl, hes2, tes2⟩, rfl⟩ := hT
  refine hW.vc [(6, [], .take 0 <| .take 1 <| .take 2 <| .take 3 <| .take 4 <| .take 5 <| .take 6 <| .take 7 <| .alt 8 (.take 9 <| .done) .stop)] _ _ ?_
  simp [-List.getD_eq_getElem?_getD, c_eqEntryS, c_eqEntry]
  refine fun h1 h2 => ⟨fun h3 => eqL_len (by omega), fun h3 => ?_⟩
  refine hW.loopS _ _ _ [.sl 5 .dp (.int .i64)] (fun ys => ∃ i : Nat, ys = [.int .i64 i] ∧ i ≤ es.length ∧ eqL eqRow2 es es2 = eqL eqRow2 (es.drop i) (es2.drop i)) (fun ys => es.length - (nth ys 0).I.toNat) ?_ ?_
  · simp [-List.getD_eq_getElem?_getD, c_eqEntryS, c_eqEntry]
    exact ⟨0, rfl, by simp, by simp⟩
  · rintro ys ⟨i, rfl, h4, h5⟩
    refine hW.vc [(6, [], .take 0 <| .take 1 <| .take 2 <| .take 3 <| .take 4 <| .take 5 <| .take 6 <| .take 7 <| .alt 8 (.take 9 <| .done) .stop)] _ _ ?_
    simp [-List.getD_eq_getElem?_getD, c_eqEntryS, c_eqEntry]
    refine fun _ => ⟨fun h6 => ⟨by decide +kernel, h6, fun _ _ _ => ⟨by omega, fun _ _ _ => ?_⟩⟩, fun h6 => ?_⟩
    · rw [drop_nth h6, drop_nth (by omega : i < es2.length), eqL] at h5
      have h8 : eqRow1 [PV.int IntKind.i64 (nth (nth es i).A 0).I, PV.str (nth (nth es i).A 1).S] [PV.int IntKind.i64 (nth (nth es2 i).A 0).I, PV.str (nth (nth es2 i).A 1).S] = eqRow2 (nth es i) (nth es2 i) := rfl
      rw [wrap64 (by omega), h8]
      refine ⟨fun h7 => by rw [h5]; simp [h7], fun h7 => ⟨⟨i + 1, by omega, by omega, by rw [h5]; simp [h7]⟩, by omega⟩⟩
    · rw [h5, List.drop_eq_nil_of_le h6, List.drop_eq_nil_of_le (by omega)]; rfl
def c_markEntryS : FSpec := ⟨[(.mt, .list (.agg [.int .i64, .str])), (.rd, .int .i64)], [.int .i64], true, fun ps => 0 ≤ (nth ps 1).I ∧ (nth ps 1).I + 2 * (nth ps 0).L.length ≤ 1073741823, fun ps => [.int .i64 ((nth ps 1).I + 2 * (nth ps 0).L.length)], fun ps => [.list (markR (nth ps 1).I (nth ps 0).L.length)]⟩
theorem k_markEntryS : FnOk Tryz.prog 137 c_markEntryS := by
  refine fn_mk [0, 1, 4, 5] [.tmp 4] (env_cons (cs := []) k_markText (env_nil (tyTab_ok []))) mixed Tryz.func137 rfl (by decide) rfl (by decide) rfl ?_
  intro ps hT hpre W hW
  simp only [c_markEntryS, TyA, Ty, Tys] at hT hpre
  obtain ⟨_, _, rfl, ⟨es, rfl, hes, tes⟩, _, _, rfl, ⟨k, rfl, hk⟩, rfl⟩ := hT
  simp only [nth_zero, nth_succ, pv_I, pv_L] at hpre
  refine hW.vc [] _ _ ?_
  simp [-List.getD_eq_getElem?_getD, c_markEntryS, c_markText]
  refine hW.loopS _ _ _ [.ar 0 (.agg [.int .i64, .str]), .sl 1 .dp (.int .i64), .sl 5 .dp (.int .i64)] (fun ys => ∃ i : Nat, ys = [.list (markR k i ++ es.drop i), .int .i64 (k + 2 * i), .int .i64 i] ∧ i ≤ es.length) (fun ys => es.length - (nth ys 2).I.toNat) ?_ ?_
  · simp [-List.getD_eq_getElem?_getD, c_markEntryS, c_markText]
    exact ⟨0, ⟨by simp [markR], by omega, rfl⟩, by omega⟩
  · rintro ys ⟨i, rfl, h2⟩
    refine hW.vc [] _ _ ?_
    simp [-List.getD_eq_getElem?_getD, c_markEntryS, c_markText]
    rw [markR_len]
    have e1 : IntKind.i64.wrap (k + 2 * (i : Int) + 1) = k + 2 * i + 1 := wrap64 (by omega)
    rw [e1, wrap64 (n := k + 2 * (i : Int) + 1 + 1) (by omega), wrap64 (n := (i : Int) + 1) (by omega)]
    refine fun _ => ⟨fun h3 => ⟨by omega, by omega, by omega, by omega, by omega, ⟨i + 1, ⟨?_, by omega, by omega⟩, by omega⟩, by omega⟩, fun h3 => ?_⟩
    · rw [nth_set (by rw [List.length_append, markR_len, List.length_drop]; omega), pv_A, nth_zero]
      exact mark_step (markR_len i k) (by omega) (markR_snoc i k)
    · have : i = es.length := by omega
      subst this
      simp
def c_heldEntryS : FSpec := ⟨[(.rd, .list (.agg [.int .i64, .str])), (.rd, .int .i64)], [.int .i64], true, fun ps => 0 ≤ (nth ps 1).I ∧ (nth ps 1).I + 2 * (nth ps 0).L.length ≤ 1073741823, fun ps => [.int .i64 (heldGo heldR1 2 (nth ps 1).I (nth ps 0).L)], fun _ => []⟩
theorem k_heldEntryS : FnOk Tryz.prog 139 c_heldEntryS := by
  refine fn_mk [0, 1, 4, 5] [.tmp 4] (env_cons (cs := []) k_markText (env_nil (tyTab_ok []))) mixed Tryz.func139 rfl (by decide) rfl (by decide) rfl ?_
  intro ps hT hpre W hW
  simp only [c_heldEntryS, TyA, Ty, Tys] at hT hpre
  obtain ⟨_, _, rfl, ⟨es, rfl, hes, tes⟩, _, _, rfl, ⟨k, rfl, hk⟩, rfl⟩ := hT
  simp only [nth_zero, nth_succ, pv_I, pv_L] at hpre
  refine hW.vc [(7, [], .take 0 <| .take 1 <| .take 2 <| .take 3 <| .take 4 <| .take 5 <| .alt 6 (.take 7 <| .done) .stop)] _ _ ?_
  simp [-List.getD_eq_getElem?_getD, c_heldEntryS, c_markText]
  refine hW.loopS _ _ _ [.sl 1 .dp (.int .i64), .sl 5 .dp (.int .i64)] (fun ys => ∃ i : Nat, ys = [.int .i64 (k + 2 * i), .int .i64 i] ∧ i ≤ es.length ∧ heldGo heldR1 2 k es = heldGo heldR1 2 (k + 2 * i) (es.drop i)) (fun ys => es.length - (nth ys 1).I.toNat) ?_ ?_
  · simp [-List.getD_eq_getElem?_getD, c_heldEntryS, c_markText]
    exact ⟨0, ⟨by omega, rfl⟩, by omega, by simp⟩
  · rintro ys ⟨i, rfl, h2, h3⟩
    refine hW.vc [(7, [], .take 0 <| .take 1 <| .take 2 <| .take 3 <| .take 4 <| .take 5 <| .alt 6 (.take 7 <| .done) .stop)] _ _ ?_
    simp [-List.getD_eq_getElem?_getD, c_heldEntryS, c_markText]
    have e1 : IntKind.i64.wrap (k + 2 * (i : Int) + 1) = k + 2 * i + 1 := wrap64 (by omega)
    rw [e1, wrap64 (n := k + 2 * (i : Int) + 1 + 1) (by omega), wrap64 (n := (i : Int) + 1) (by omega)]
    refine fun _ => ⟨fun h4 => ⟨h4, fun _ => ⟨fun h5 => ?_, fun h5 => ⟨by decide +kernel, h4, fun _ => ⟨by omega, fun h6 => ?_, fun h6 => ⟨⟨i + 1, ⟨by omega, by omega⟩, by omega, ?_⟩, by omega⟩⟩⟩⟩⟩, fun h4 => ?_⟩
    · rw [h3, drop_nth h4, heldGo, if_neg (by simp [heldR1, h5])]
    · rw [h3, drop_nth h4, heldGo, if_neg (by simp [heldR1, h6])]
    · have e2 : k + 2 * ((i + 1 : Nat) : Int) = k + 2 * i + 2 := by omega
      rw [h3, drop_nth h4, heldGo, if_pos (by simp [heldR1, h5, h6]), e2]
    · rw [h3, List.drop_eq_nil_of_le h4]; rfl
def c_eqIntS : FSpec := ⟨[(.rd, .list (.int .i64)), (.rd, .list (.int .i64))], [.bool], true, fun _ => True, fun ps => [.bool (eqL eqB (nth ps 0).L (nth ps 1).L)], fun _ => []⟩
theorem k_eqIntS : FnOk Tryz.prog 182 c_eqIntS := by
  refine fn_mk [0, 1, 4, 5] [.tmp 4] (env_nil (tyTab_ok [])) mixed Tryz.func182 rfl (by decide) rfl (by decide) rfl ?_
  intro ps hT hpre W hW
  simp only [c_eqIntS, TyA, Ty, Tys] at hT hpre
  obtain ⟨_, _, rfl, ⟨es, rfl, hes, tes⟩, _, _, rfl, ⟨es2, rfl, hes2, tes2⟩, rfl⟩ := hT
  refine hW.vc [(6, [], .take 0 <| .take 1 <| .take 2 <| .take 3 <| .take 4 <| .take 5 <| .take 6 <| .take 7 <| .take 8 <| .done)] _ _ ?_
  simp [-List.getD_eq_getElem?_getD, c_eqIntS]
  refine fun h1 h2 => ⟨fun h3 => eqL_len (by omega), fun h3 => ?_⟩
  refine hW.loopS _ _ _ [.sl 5 .dp (.int .i64)] (fun ys => ∃ i : Nat, ys = [.int .i64 i] ∧ i ≤ es.length ∧ eqL eqB es es2 = eqL eqB (es.drop i) (es2.drop i)) (fun ys => es.length - (nth ys 0).I.toNat) ?_ ?_
  · simp [-List.getD_eq_getElem?_getD, c_eqIntS]
    exact ⟨0, rfl, by simp, by simp⟩
  · rintro ys ⟨i, rfl, h4, h5⟩
    refine hW.vc [(6, [], .take 0 <| .take 1 <| .take 2 <| .take 3 <| .take 4 <| .take 5 <| .take 6 <| .take 7 <| .take 8 <| .done)] _ _ ?_
    simp [-List.getD_eq_getElem?_getD, c_eqIntS]
    refine fun _ => ⟨fun h6 => ⟨by decide +kernel, h6, fun _ => ⟨by omega, fun _ => ?_⟩⟩, fun h6 => ?_⟩
    · rw [drop_nth h6, drop_nth (by omega : i < es2.length), eqL] at h5
      rw [wrap64 (by omega)]
      refine ⟨fun h7 => by rw [h5]; simp [eqB, h7], fun h7 => ⟨⟨i + 1, by omega, by omega, by rw [h5]; simp [eqB, h7]⟩, by omega⟩⟩
    · rw [h5, List.drop_eq_nil_of_le h6, List.drop_eq_nil_of_le (by omega)]; rfl
def markI (k : Int) : Nat → List PV
  | 0 => []
  | n + 1 => .int .i64 k :: markI (k + 1) n
theorem markI_len : ∀ (n : Nat) (k : Int), (markI k n).length = n
  | 0, _ => rfl
  | n + 1, k => by simp [markI, markI_len n]
theorem markI_snoc : ∀ (n : Nat) (k : Int), markI k (n + 1) = markI k n ++ [.int .i64 (k + n)]
  | 0, k => by simp [markI]
  | n + 1, k => by
    rw [markI, markI_snoc n (k + 1), markI, List.cons_append]
    have e : k + 1 + (n : Int) = k + ((n + 1 : Nat) : Int) := by omega
    rw [e]
def c_markIntS : FSpec := ⟨[(.mt, .list (.int .i64)), (.rd, .int .i64)], [.int .i64], true, fun ps => 0 ≤ (nth ps 1).I ∧ (nth ps 1).I + (nth ps 0).L.length ≤ 1073741823, fun ps => [.int .i64 ((nth ps 1).I + (nth ps 0).L.length)], fun ps => [.list (markI (nth ps 1).I (nth ps 0).L.length)]⟩
theorem k_markIntS : FnOk Tryz.prog 138 c_markIntS := by
  refine fn_mk [0, 1, 4, 5] [.tmp 4] (env_nil (tyTab_ok [])) mixed Tryz.func138 rfl (by decide) rfl (by decide) rfl ?_
  intro ps hT hpre W hW
  simp only [c_markIntS, TyA, Ty, Tys] at hT hpre
  obtain ⟨_, _, rfl, ⟨es, rfl, hes, tes⟩, _, _, rfl, ⟨k, rfl, hk⟩, rfl⟩ := hT
  simp only [nth_zero, nth_succ, pv_I, pv_L] at hpre
  refine hW.vc [] _ _ ?_
  simp [-List.getD_eq_getElem?_getD, c_markIntS]
  refine hW.loopS _ _ _ [.ar 0 (.int .i64), .sl 1 .dp (.int .i64), .sl 5 .dp (.int .i64)] (fun ys => ∃ i : Nat, ys = [.list (markI k i ++ es.drop i), .int .i64 (k + i), .int .i64 i] ∧ i ≤ es.length) (fun ys => es.length - (nth ys 2).I.toNat) ?_ ?_
  · simp [-List.getD_eq_getElem?_getD, c_markIntS]
    exact ⟨0, ⟨by simp [markI], by omega, rfl⟩, by omega⟩
  · rintro ys ⟨i, rfl, h2⟩
    refine hW.vc [] _ _ ?_
    simp [-List.getD_eq_getElem?_getD, c_markIntS]
    rw [markI_len, wrap64 (n := k + (i : Int) + 1) (by omega), wrap64 (n := (i : Int) + 1) (by omega)]
    refine fun _ => ⟨fun h3 => ⟨by omega, by omega, ⟨i + 1, ⟨?_, by omega, by omega⟩, by omega⟩, by omega⟩, fun h3 => ?_⟩
    · exact mark_step (markI_len i k) (by omega) (markI_snoc i k)
    · have : i = es.length := by omega
      subst this
      simp
def heldI1 (k : Int) (e : PV) : Bool := e.I == k
theorem heldI_mark (n : Nat) (k : Int) : heldGo heldI1 1 k (markI k n) = k + n := by
  rw [held_marked (m := markI) (fun _ => rfl) (fun k n => ⟨_, rfl, by simp [heldI1, pv_I]⟩), Int.one_mul]
def c_heldIntS : FSpec := ⟨[(.rd, .list (.int .i64)), (.rd, .int .i64)], [.int .i64], true, fun ps => 0 ≤ (nth ps 1).I ∧ (nth ps 1).I + (nth ps 0).L.length ≤ 1073741823, fun ps => [.int .i64 (heldGo heldI1 1 (nth ps 1).I (nth ps 0).L)], fun _ => []⟩
theorem k_heldIntS : FnOk Tryz.prog 140 c_heldIntS := by
  refine fn_mk [0, 1, 4, 5] [.tmp 4] (env_nil (tyTab_ok [])) mixed Tryz.func140 rfl (by decide) rfl (by decide) rfl ?_
  intro ps hT hpre W hW
  simp only [c_heldIntS, TyA, Ty, Tys] at hT hpre
  obtain ⟨_, _, rfl, ⟨es, rfl, hes, tes⟩, _, _, rfl, ⟨k, rfl, hk⟩, rfl⟩ := hT
  simp only [nth_zero, nth_succ, pv_I, pv_L] at hpre
  refine hW.vc [] _ _ ?_
  simp [-List.getD_eq_getElem?_getD, c_heldIntS]
  refine hW.loopS _ _ _ [.sl 1 .dp (.int .i64), .sl 5 .dp (.int .i64)] (fun ys => ∃ i : Nat, ys = [.int .i64 (k + i), .int .i64 i] ∧ i ≤ es.length ∧ heldGo heldI1 1 k es = heldGo heldI1 1 (k + i) (es.drop i)) (fun ys => es.length - (nth ys 1).I.toNat) ?_ ?_
  · simp [-List.getD_eq_getElem?_getD, c_heldIntS]
    exact ⟨0, ⟨by omega, rfl⟩, by omega, by simp⟩
  · rintro ys ⟨i, rfl, h2, h3⟩
    refine hW.vc [] _ _ ?_
    simp [-List.getD_eq_getElem?_getD, c_heldIntS]
    rw [wrap64 (n := k + (i : Int) + 1) (by omega), wrap64 (n := (i : Int) + 1) (by omega)]
    refine fun _ => ⟨fun h4 => ⟨h4, fun _ => ⟨fun h5 => ?_, fun h5 => ⟨⟨i + 1, ⟨by omega, by omega⟩, by omega, ?_⟩, by omega⟩⟩⟩, fun h4 => ?_⟩
    · rw [h3, drop_nth h4, heldGo, if_neg (by simp [heldI1, h5])]
    · have e : k + ((i + 1 : Nat) : Int) = k + i + 1 := by omega
      rw [h3, drop_nth h4, heldGo, if_pos (by simp [heldI1, h5]), e]
    · rw [h3, List.drop_eq_nil_of_le h4]; rfl
end Go.Proofs.YtkofjkjcbljkdaaGreatDoor
end

section
namespace Go.Proofs.YtkofjkjcbljkdaaGreatDoor
variable [LaidG]
set_option maxRecDepth 100000
set_option linter.unusedSimpArgs false
def eqNd (a b : List PV) : Bool := (nth a 0).I == (nth b 0).I && (nth a 1).I == (nth b 1).I && (nth a 2).I == (nth b 2).I && (nth a 3).I == (nth b 3).I && (nth a 4).I == (nth b 4).I && (nth a 5).B == (nth b 5).B && eqL eqRow2 (nth a 6).L (nth b 6).L &&
  (nth a 7).I == (nth b 7).I && (nth a 8).I == (nth b 8).I && (nth a 9).I == (nth b 9).I && eqL eqB (nth a 10).L (nth b 10).L && eqL eqB (nth a 11).L (nth b 11).L && eqL eqB (nth a 12).L (nth b 12).L
def c_eqNode : FSpec := ⟨[(.rd, .agg [.int .i64, .int .i64, .int .i64, .int .i64, .int .i64, .bool, .list (.agg [.int .i64, .str]), .int .i64, .int .i64, .int .i64, .list (.int .i64), .list (.int .i64), .list (.int .i64)]), (.rd, .agg [.int .i64, .int .i64, .int .i64, .int .i64, .int .i64, .bool, .list (.agg [.int .i64, .str]), .int .i64, .int .i64, .int .i64, .list (.int .i64), .list (.int .i64), .list (.int .i64)])], [.bool], true, fun _ => True, fun ps => [.bool (eqNd (nth ps 0).A (nth ps 1).A)], fun _ => []⟩
theorem k_eqNode : FnOk Tryz.prog 133 c_eqNode := by
  refine fn_mk [0, 1, 2, 3, 4] [.tmp 4] (env_cons (cs := []) k_eqIntS (env_cons (cs := []) k_eqEntryS (env_nil (tyTab_ok [])))) mixed Tryz.func133 rfl (by decide) rfl (by decide) rfl ?_
  intro ps hT hpre W hW
  simp only [c_eqNode, TyA, Ty, Tys] at hT hpre
  obtain ⟨_, _, rfl, ⟨_, rfl, _, _, rfl, ⟨n0, rfl, hn0⟩, _, _, rfl, ⟨n1, rfl, hn1⟩, _, _, rfl, ⟨n2, rfl, hn2⟩, _, _, rfl, ⟨n3, rfl, hn3⟩, _, _, rfl, ⟨n4, rfl, hn4⟩, _, _, rfl, ⟨u, rfl⟩, _, _, rfl, ⟨es, rfl, hes, tes⟩, _, _, rfl, ⟨n5, rfl, hn5⟩, _, _, rfl, ⟨n6, rfl, hn6⟩, _, _, rfl, ⟨n7, rfl, hn7⟩, _, _, rfl, ⟨vs, rfl, hvs, tvs⟩, _, _, rfl, ⟨xs, rfl, hxs, txs⟩, _, _, rfl, ⟨ms, rfl, hms, tms⟩, rfl⟩, _, _, rfl, ⟨_, rfl, _, _, rfl, ⟨n0', rfl, hn0'⟩, _, _, rfl, ⟨n1', rfl, hn1'⟩, _, _, rfl, ⟨n2', rfl, hn2'⟩, _, _, rfl, ⟨n3', rfl, hn3'⟩, _, _, rfl, ⟨n4', rfl, hn4'⟩, _, _, rfl, ⟨u', rfl⟩, _, _, rfl, ⟨es', rfl, hes', tes'⟩, _, _, rfl, ⟨n5', rfl, hn5'⟩, _, _, rfl, ⟨n6', rfl, hn6'⟩, _, _, rfl, ⟨n7', rfl, hn7'⟩, _, _, rfl, ⟨vs', rfl, hvs', tvs'⟩, _, _, rfl, ⟨xs', rfl, hxs', txs'⟩, _, _, rfl, ⟨ms', rfl, hms', tms'⟩, rfl⟩, rfl⟩ := hT
  refine hW.vc [] _ _ ?_
  simp [-List.getD_eq_getElem?_getD, c_eqNode, c_eqEntryS, c_eqIntS]
  simp only [eqNd, nth_zero, nth_succ, pv_I, pv_B, pv_L]
  exact ⟨fun q1 => by simp [q1], fun q1 => ⟨fun q2 => by simp [q2], fun q2 => ⟨fun q3 => by simp [q3], fun q3 => ⟨fun q4 => by simp [q4], fun q4 => ⟨fun q5 => by simp [q5], fun q5 => ⟨fun q6 => by simp [q6], fun q6 => ⟨fun q7 => by simp [q7], fun q7 => ⟨fun q8 => by simp [q8], fun q8 => ⟨fun q9 => by simp [q9], fun q9 => ⟨fun q10 => by simp [q10], fun q10 => ⟨fun q11 => by simp [q11], fun q11 => ⟨fun q12 => by simp [q12], fun q12 => ⟨fun q13 => by simp [q13], fun q13 => by simp [q1, q2, q3, q4, q5, q6, q7, q8, q9, q10, q11, q12, q13]⟩⟩⟩⟩⟩⟩⟩⟩⟩⟩⟩⟩⟩
theorem eqNd_refl (v : List PV) : eqNd v v = true := by simp [eqNd, eqL_refl (f := eqRow2) eqRow2_refl, eqB_refl]
def eqMg (a b : List PV) : Bool := (nth a 0).I == (nth b 0).I && (nth a 1).I == (nth b 1).I && (nth a 2).I == (nth b 2).I && (nth a 3).I == (nth b 3).I && (nth a 4).I == (nth b 4).I && (nth a 5).I == (nth b 5).I && (nth a 6).I == (nth b 6).I && (nth a 7).B == (nth b 7).B && eqL eqRow2 (nth a 8).L (nth b 8).L
theorem eqMg_refl (v : List PV) : eqMg v v = true := by simp [eqMg, eqL_refl (f := eqRow2) eqRow2_refl]
def c_eqMessage : FSpec := ⟨[(.rd, .agg [.int .i64, .int .i64, .int .i64, .int .i64, .int .i64, .int .i64, .int .i64, .bool, .list (.agg [.int .i64, .str])]), (.rd, .agg [.int .i64, .int .i64, .int .i64, .int .i64, .int .i64, .int .i64, .int .i64, .bool, .list (.agg [.int .i64, .str])])], [.bool], true, fun _ => True, fun ps => [.bool (eqMg (nth ps 0).A (nth ps 1).A)], fun _ => []⟩
theorem k_eqMessage : FnOk Tryz.prog 135 c_eqMessage := by
  refine fn_mk [0, 1, 2, 3, 4] [.tmp 4] (env_cons (cs := []) k_eqEntryS (env_nil (tyTab_ok []))) mixed Tryz.func135 rfl (by decide) rfl (by decide) rfl ?_
  intro ps hT hpre W hW
  simp only [c_eqMessage, TyA, Ty, Tys] at hT hpre
  obtain ⟨_, _, rfl, ⟨_, rfl, _, _, rfl, ⟨n0, rfl, hn0⟩, _, _, rfl, ⟨n1, rfl, hn1⟩, _, _, rfl, ⟨n2, rfl, hn2⟩, _, _, rfl, ⟨n3, rfl, hn3⟩, _, _, rfl, ⟨n4, rfl, hn4⟩, _, _, rfl, ⟨n5, rfl, hn5⟩, _, _, rfl, ⟨n6, rfl, hn6⟩, _, _, rfl, ⟨u, rfl⟩, _, _, rfl, ⟨es, rfl, hes, tes⟩, rfl⟩, _, _, rfl, ⟨_, rfl, _, _, rfl, ⟨n0', rfl, hn0'⟩, _, _, rfl, ⟨n1', rfl, hn1'⟩, _, _, rfl, ⟨n2', rfl, hn2'⟩, _, _, rfl, ⟨n3', rfl, hn3'⟩, _, _, rfl, ⟨n4', rfl, hn4'⟩, _, _, rfl, ⟨n5', rfl, hn5'⟩, _, _, rfl, ⟨n6', rfl, hn6'⟩, _, _, rfl, ⟨u', rfl⟩, _, _, rfl, ⟨es', rfl, hes', tes'⟩, rfl⟩, rfl⟩ := hT
  refine hW.vc [] _ _ ?_
  simp [-List.getD_eq_getElem?_getD, c_eqMessage, c_eqEntryS]
  simp only [eqMg, nth_zero, nth_succ, pv_I, pv_B, pv_L]
  exact ⟨fun q1 => by simp [q1], fun q1 => ⟨fun q2 => by simp [q2], fun q2 => ⟨fun q3 => by simp [q3], fun q3 => ⟨fun q4 => by simp [q4], fun q4 => ⟨fun q5 => by simp [q5], fun q5 => ⟨fun q6 => by simp [q6], fun q6 => ⟨fun q7 => by simp [q7], fun q7 => ⟨fun q8 => by simp [q8], fun q8 => ⟨fun q9 => by simp [q9], fun q9 => by simp [q1, q2, q3, q4, q5, q6, q7, q8, q9]⟩⟩⟩⟩⟩⟩⟩⟩⟩
def eqMg2 (a b : PV) : Bool := eqMg a.A b.A
theorem eqMs_refl (es : List PV) : eqL eqMg2 es es = true := eqL_refl fun _ => eqMg_refl _
def c_eqMessageS : FSpec := ⟨[(.rd, .list (.agg [.int .i64, .int .i64, .int .i64, .int .i64, .int .i64, .int .i64, .int .i64, .bool, .list (.agg [.int .i64, .str])])), (.rd, .list (.agg [.int .i64, .int .i64, .int .i64, .int .i64, .int .i64, .int .i64, .int .i64, .bool, .list (.agg [.int .i64, .str])]))], [.bool], true, fun _ => True, fun ps => [.bool (eqL eqMg2 (nth ps 0).L (nth ps 1).L)], fun _ => []⟩
theorem k_eqMessageS : FnOk Tryz.prog 82 c_eqMessageS := by
  refine fn_mk [0, 1, 4, 5] [.tmp 4] (env_cons (cs := []) k_eqMessage (env_nil (tyTab_ok []))) mixed Tryz.func82 rfl (by decide) rfl (by decide) rfl ?_
  intro ps hT hpre W hW
  simp only [c_eqMessageS, TyA, Ty, Tys] at hT hpre
  obtain ⟨_, _, rfl, ⟨es, rfl, hes, tes⟩, _, _, rfl, ⟨es2, rfl, hes2, tes2⟩, rfl⟩ := hT
  refine hW.vc [(6, [], .take 0 <| .take 1 <| .take 2 <| .take 3 <| .take 4 <| .take 5 <| .take 6 <| .take 7 <| .alt 8 (.take 9 <| .done) .stop)] _ _ ?_
  simp [-List.getD_eq_getElem?_getD, c_eqMessageS, c_eqMessage]
  refine fun h1 h2 => ⟨fun h3 => eqL_len (by omega), fun h3 => ?_⟩
  refine hW.loopS _ _ _ [.sl 5 .dp (.int .i64)] (fun ys => ∃ i : Nat, ys = [.int .i64 i] ∧ i ≤ es.length ∧ eqL eqMg2 es es2 = eqL eqMg2 (es.drop i) (es2.drop i)) (fun ys => es.length - (nth ys 0).I.toNat) ?_ ?_
  · simp [-List.getD_eq_getElem?_getD, c_eqMessageS, c_eqMessage]
    exact ⟨0, rfl, by simp, by simp⟩
  · rintro ys ⟨i, rfl, h4, h5⟩
    refine hW.vc [(6, [], .take 0 <| .take 1 <| .take 2 <| .take 3 <| .take 4 <| .take 5 <| .take 6 <| .take 7 <| .alt 8 (.take 9 <| .done) .stop)] _ _ ?_
    simp [-List.getD_eq_getElem?_getD, c_eqMessageS, c_eqMessage]
    refine fun _ => ⟨fun h6 => ⟨by decide +kernel, h6, fun _ _ _ _ _ _ _ _ _ _ _ _ _ _ _ => ⟨by omega, fun _ _ _ _ _ _ _ _ _ _ _ _ _ _ _ => ?_⟩⟩, fun h6 => ?_⟩
    · rw [drop_nth h6, drop_nth (by omega : i < es2.length), eqL] at h5
      have h8 : eqMg [PV.int IntKind.i64 (nth (nth es i).A 0).I, PV.int IntKind.i64 (nth (nth es i).A 1).I, PV.int IntKind.i64 (nth (nth es i).A 2).I, PV.int IntKind.i64 (nth (nth es i).A 3).I, PV.int IntKind.i64 (nth (nth es i).A 4).I, PV.int IntKind.i64 (nth (nth es i).A 5).I,
            PV.int IntKind.i64 (nth (nth es i).A 6).I, PV.bool (nth (nth es i).A 7).B, PV.list (nth (nth es i).A 8).L]
          [PV.int IntKind.i64 (nth (nth es2 i).A 0).I, PV.int IntKind.i64 (nth (nth es2 i).A 1).I, PV.int IntKind.i64 (nth (nth es2 i).A 2).I, PV.int IntKind.i64 (nth (nth es2 i).A 3).I, PV.int IntKind.i64 (nth (nth es2 i).A 4).I, PV.int IntKind.i64 (nth (nth es2 i).A 5).I,
            PV.int IntKind.i64 (nth (nth es2 i).A 6).I, PV.bool (nth (nth es2 i).A 7).B, PV.list (nth (nth es2 i).A 8).L] = eqMg2 (nth es i) (nth es2 i) := rfl
      rw [wrap64 (by omega), h8]
      refine ⟨fun h7 => by rw [h5]; simp [h7], fun h7 => ⟨⟨i + 1, by omega, by omega, by rw [h5]; simp [h7]⟩, by omega⟩⟩
    · rw [h5, List.drop_eq_nil_of_le h6, List.drop_eq_nil_of_le (by omega)]; rfl
theorem held_le {f : Int → PV → Bool} {d : Int} (hd : 0 ≤ d) : ∀ {es : List PV} {k : Int}, 0 ≤ k → heldGo f d k es = -1 ∨ heldGo f d k es = k + d * es.length
  | [], k, hk => by simp [heldGo]
  | e :: es, k, hk => by
    simp only [heldGo]
    split
    · rcases held_le hd (es := es) (k := k + d) (by omega) with h | h
      · exact .inl h
      · refine .inr ?_
        rw [h, List.length_cons, Int.natCast_add, Int.mul_add]; omega
    · exact .inl rfl
end Go.Proofs.YtkofjkjcbljkdaaGreatDoor
end

section
namespace Go.Proofs.YtkofjkjcbljkdaaGreatDoor
variable [LaidG]
set_option maxRecDepth 100000
set_option linter.unusedSimpArgs false
def msN (e : PV) : Int := 8 + 2 * (nth e.A 8).L.length
def mod3 (k : Int) : Bool := k.tmod 3 == 0
def mkM (k : Int) (e : PV) : PV := .agg [.int .i64 k, .int .i64 (k + 1), .int .i64 (k + 2), .int .i64 (k + 3), .int .i64 (k + 4), .int .i64 (k + 5), .int .i64 (k + 6), .bool (mod3 (k + 7)), .list (markR (k + 8) (nth e.A 8).L.length)]
def sumMs (k : Int) : List PV → Int
  | [] => k
  | e :: es => sumMs (k + msN e) es
def markMs (k : Int) : List PV → List PV
  | [] => []
  | e :: es => mkM k e :: markMs (k + msN e) es
theorem sumMs_snoc (x : PV) : ∀ (es : List PV) (k : Int), sumMs k (es ++ [x]) = sumMs k es + msN x
  | [], k => rfl
  | e :: es, k => by simp only [List.cons_append, sumMs]; exact sumMs_snoc x es _
theorem markMs_snoc (x : PV) : ∀ (es : List PV) (k : Int), markMs k (es ++ [x]) = markMs k es ++ [mkM (sumMs k es) x]
  | [], k => rfl
  | e :: es, k => by simp only [List.cons_append, markMs, sumMs]; rw [markMs_snoc x es]
theorem markMs_len : ∀ (es : List PV) (k : Int), (markMs k es).length = es.length
  | [], k => rfl
  | e :: es, k => by simp only [markMs, List.length_cons, markMs_len es]
theorem sumMs_ge : ∀ (es : List PV) (k : Int), k ≤ sumMs k es
  | [], k => Int.le_refl _
  | e :: es, k => by have := sumMs_ge es (k + msN e); simp only [sumMs]; unfold msN at *; omega
theorem sumMs_take (es : List PV) (k : Int) {i : Nat} (h : i < es.length) : sumMs k (es.take i) + msN (nth es i) ≤ sumMs k es := by
  induction es generalizing k i with
  | nil => simp at h
  | cons e es ih =>
    cases i with
    | zero => rw [nth_zero]; exact sumMs_ge es (k + msN e)
    | succ i => rw [nth_succ]; exact ih (k + msN e) (by simpa using h)
theorem msN_mk (k : Int) (e : PV) : msN (mkM k e) = msN e := by simp [msN, mkM, nth_zero, nth_succ, pv_A, pv_L, markR_len]
def c_markMessageS : FSpec := ⟨[(.mt, .list (.agg [.int .i64, .int .i64, .int .i64, .int .i64, .int .i64, .int .i64, .int .i64, .bool, .list (.agg [.int .i64, .str])])), (.rd, .int .i64)], [.int .i64], true, fun ps => 0 ≤ (nth ps 1).I ∧ sumMs (nth ps 1).I (nth ps 0).L ≤ 1073741823, fun ps => [.int .i64 (sumMs (nth ps 1).I (nth ps 0).L)], fun ps => [.list (markMs (nth ps 1).I (nth ps 0).L)]⟩
theorem k_markMessageS : FnOk Tryz.prog 87 c_markMessageS := by
  refine fn_mk [0, 1, 4, 5] [.tmp 4] (env_cons (cs := []) k_markEntryS (env_nil (tyTab_ok []))) mixed Tryz.func87 rfl (by decide) rfl (by decide) rfl ?_
  intro ps hT hpre W hW
  simp only [c_markMessageS, TyA, Ty, Tys] at hT hpre
  obtain ⟨_, _, rfl, ⟨es, rfl, hes, tes⟩, _, _, rfl, ⟨k, rfl, hk⟩, rfl⟩ := hT
  simp only [nth_zero, nth_succ, pv_I, pv_L] at hpre
  refine hW.vc [] _ _ ?_
  simp [-List.getD_eq_getElem?_getD, c_markMessageS, c_markEntryS]
  refine hW.loopS _ _ _ [.ar 0 (.agg [.int .i64, .int .i64, .int .i64, .int .i64, .int .i64, .int .i64, .int .i64, .bool, .list (.agg [.int .i64, .str])]), .sl 1 .dp (.int .i64), .sl 5 .dp (.int .i64)] (fun ys => ∃ i : Nat, ys = [.list (markMs k (es.take i) ++ es.drop i), .int .i64 (sumMs k (es.take i)), .int .i64 i] ∧ i ≤ es.length) (fun ys => es.length - (nth ys 2).I.toNat) ?_ ?_
  · simp [-List.getD_eq_getElem?_getD, c_markMessageS, c_markEntryS]
    exact ⟨0, ⟨by simp [markMs], by simp [sumMs], rfl⟩, by omega⟩
  · rintro ys ⟨i, rfl, h2⟩
    by_cases h3 : i < es.length
    · have h4 : i < (markMs k (es.take i) ++ es.drop i).length := by rw [List.length_append, markMs_len, List.length_take, List.length_drop]; omega
      have h5 : (markMs k (es.take i) ++ es.drop i).length = es.length := by rw [List.length_append, markMs_len, List.length_take, List.length_drop]; omega
      obtain ⟨L, hL⟩ : ∃ L, L = markMs k (es.take i) ++ es.drop i := ⟨_, rfl⟩
      obtain ⟨K, hK⟩ : ∃ K, K = sumMs k (es.take i) := ⟨_, rfl⟩
      rw [← hL] at h4 h5
      rw [← hL, ← hK]
      have h6 : ∀ x, nth (L.set i x) i = x := fun x => nth_set h4
      refine hW.vc [] _ _ ?_
      simp [-List.getD_eq_getElem?_getD, c_markMessageS, c_markEntryS, h6]
      have g1 := sumMs_take es k h3
      have g2 := sumMs_ge (es.take i) k
      rw [← hK] at g1 g2
      have g3 : nth L i = nth es i := by rw [hL, drop_nth h3]; simp [nth, List.getElem?_append_right, markMs_len, List.length_take, Nat.min_eq_left h2]
      have g4 : msN (nth es i) = 8 + 2 * (nth (nth es i).A 8).L.length := rfl
      rw [g3]
      have e1 : IntKind.i64.wrap (K + 1) = K + 1 := wrap64 (by omega)
      have e2 : IntKind.i64.wrap (K + 1 + 1) = K + 2 := by rw [wrap64 (by omega)]; omega
      have e3 : IntKind.i64.wrap (K + 2 + 1) = K + 3 := by rw [wrap64 (by omega)]; omega
      have e4 : IntKind.i64.wrap (K + 3 + 1) = K + 4 := by rw [wrap64 (by omega)]; omega
      have e5 : IntKind.i64.wrap (K + 4 + 1) = K + 5 := by rw [wrap64 (by omega)]; omega
      have e6 : IntKind.i64.wrap (K + 5 + 1) = K + 6 := by rw [wrap64 (by omega)]; omega
      have e7 : IntKind.i64.wrap (K + 6 + 1) = K + 7 := by rw [wrap64 (by omega)]; omega
      have e8 : IntKind.i64.wrap (K + 7 + 1) = K + 8 := by rw [wrap64 (by omega)]; omega
      have e9 : IntKind.i64.wrap ((i : Int) + 1) = (i : Int) + 1 := wrap64 (by rw [LIM] at hes; omega)
      simp only [e1, e2, e3, e4, e5, e6, e7, e8, e9]
      refine fun _ => ⟨fun _ => ⟨h4, fun _ => ⟨⟨by omega, by omega⟩, ⟨i + 1, ⟨?_, ?_, by omega⟩, by omega⟩, by omega⟩⟩, fun h => by omega⟩
      · rw [take_nth h3, markMs_snoc, hL]
        exact mark_step (by rw [markMs_len, List.length_take]; omega) h3 (by rw [hK]; rfl)
      · rw [take_nth h3, sumMs_snoc, ← hK, g4]; omega
    · have : i = es.length := by omega
      subst this
      have h4 : markMs k (es.take es.length) ++ es.drop es.length = markMs k es := by simp
      have h5 : (markMs k es).length = es.length := markMs_len es k
      rw [h4, List.take_length]
      obtain ⟨L, hL⟩ : ∃ L, L = markMs k es := ⟨_, rfl⟩
      rw [← hL] at h5 ⊢
      have h6 : ∀ x, nth (L.set es.length x) es.length = PV.d := fun x => by simp [nth, h5]
      refine hW.vc [] _ _ ?_
      simp [-List.getD_eq_getElem?_getD, c_markMessageS, c_markEntryS, h6, h5]
      exact fun _ => hL
def heldM1 (k : Int) (e : PV) : Bool := (nth e.A 0).I == k && (nth e.A 1).I == k + 1 && (nth e.A 2).I == k + 2 && (nth e.A 3).I == k + 3 && (nth e.A 4).I == k + 4 && (nth e.A 5).I == k + 5 && (nth e.A 6).I == k + 6 && (nth e.A 7).B == mod3 (k + 7) && heldGo heldR1 2 (k + 8) (nth e.A 8).L == k + msN e
def heldMs (k : Int) : List PV → Int
  | [] => k
  | e :: es => if heldM1 k e then heldMs (k + msN e) es else -1
theorem heldMs_mark : ∀ (es : List PV) (k : Int), heldMs k (markMs k es) = sumMs k es
  | [], k => rfl
  | e :: es, k => by
    rw [markMs, heldMs, if_pos, msN_mk, heldMs_mark es, sumMs]
    rw [heldM1, msN_mk]
    simp [mkM, msN, nth_zero, nth_succ, pv_A, pv_I, pv_L, pv_B, heldR_mark]
    omega
def c_heldMessageS : FSpec := ⟨[(.rd, .list (.agg [.int .i64, .int .i64, .int .i64, .int .i64, .int .i64, .int .i64, .int .i64, .bool, .list (.agg [.int .i64, .str])])), (.rd, .int .i64)], [.int .i64], true, fun ps => 0 ≤ (nth ps 1).I ∧ sumMs (nth ps 1).I (nth ps 0).L ≤ 1073741823, fun ps => [.int .i64 (heldMs (nth ps 1).I (nth ps 0).L)], fun _ => []⟩
set_option maxHeartbeats 1000000 in
theorem k_heldMessageS : FnOk Tryz.prog 92 c_heldMessageS := by
  refine fn_mk [0, 1, 4, 5] [.tmp 4] (env_cons (cs := []) k_heldEntryS (env_nil (tyTab_ok []))) mixed Tryz.func92 rfl (by decide) rfl (by decide) rfl ?_
  intro ps hT hpre W hW
  simp only [c_heldMessageS, TyA, Ty, Tys] at hT hpre
  obtain ⟨_, _, rfl, ⟨es, rfl, hes, tes⟩, _, _, rfl, ⟨k, rfl, hk⟩, rfl⟩ := hT
  simp only [nth_zero, nth_succ, pv_I, pv_L] at hpre
  refine hW.vc [] _ _ ?_
  simp [-List.getD_eq_getElem?_getD, c_heldMessageS, c_heldEntryS]
  refine hW.loopS _ _ _ [.sl 1 .dp (.int .i64), .sl 5 .dp (.int .i64)] (fun ys => ∃ i : Nat, ys = [.int .i64 (sumMs k (es.take i)), .int .i64 i] ∧ i ≤ es.length ∧ heldMs k es = heldMs (sumMs k (es.take i)) (es.drop i)) (fun ys => es.length - (nth ys 1).I.toNat) ?_ ?_
  · simp [-List.getD_eq_getElem?_getD, c_heldMessageS, c_heldEntryS]
    exact ⟨0, ⟨by simp [sumMs], rfl⟩, by omega, by simp [sumMs]⟩
  · rintro ys ⟨i, rfl, h2, h3⟩
    refine hW.vc [] _ _ ?_
    simp [-List.getD_eq_getElem?_getD, c_heldMessageS, c_heldEntryS]
    by_cases h4 : i < es.length
    · have g1 := sumMs_take es k h4
      have g2 := sumMs_ge (es.take i) k
      obtain ⟨K, hK⟩ : ∃ K, K = sumMs k (es.take i) := ⟨_, rfl⟩
      rw [← hK] at g1 g2 h3 ⊢
      have g4 : msN (nth es i) = 8 + 2 * (nth (nth es i).A 8).L.length := rfl
      rw [drop_nth h4, heldMs] at h3
      have no : heldM1 K (nth es i) = false → heldMs k es = -1 := fun q => by rw [h3, if_neg (by rw [q]; simp)]
      have e1 : IntKind.i64.wrap (K + 1) = K + 1 := wrap64 (by omega)
      have e2 : IntKind.i64.wrap (K + 1 + 1) = K + 2 := by rw [wrap64 (by omega)]; omega
      have e3 : IntKind.i64.wrap (K + 2 + 1) = K + 3 := by rw [wrap64 (by omega)]; omega
      have e4 : IntKind.i64.wrap (K + 3 + 1) = K + 4 := by rw [wrap64 (by omega)]; omega
      have e5 : IntKind.i64.wrap (K + 4 + 1) = K + 5 := by rw [wrap64 (by omega)]; omega
      have e6 : IntKind.i64.wrap (K + 5 + 1) = K + 6 := by rw [wrap64 (by omega)]; omega
      have e7 : IntKind.i64.wrap (K + 6 + 1) = K + 7 := by rw [wrap64 (by omega)]; omega
      have e8 : IntKind.i64.wrap (K + 7 + 1) = K + 8 := by rw [wrap64 (by omega)]; omega
      have e9 : IntKind.i64.wrap ((i : Int) + 1) = (i : Int) + 1 := wrap64 (by rw [LIM] at hes; omega)
      simp only [e1, e2, e3, e4, e5, e6, e7, e8, e9]
      have b1 : 0 ≤ K + 8 ∧ K + 8 + 2 * ((nth (nth es i).A 8).L.length : Int) ≤ 1073741823 := ⟨by omega, by omega⟩
      have a1 := held_le (f := heldR1) (d := 2) (by omega) (es := (nth (nth es i).A 8).L) (k := K + 8) (by omega)
      obtain ⟨H, hH⟩ : ∃ H, H = heldGo heldR1 2 (K + 8) (nth (nth es i).A 8).L := ⟨_, rfl⟩
      rw [← hH] at a1 ⊢
      have b2 : H < 0 → ¬ H = K + msN (nth es i) := fun _ => by omega
      have b3 : 0 ≤ H → H = K + msN (nth es i) := fun _ => by omega
      have b4 : es.length ≤ i → False := fun _ => by omega
      have b5 : (i : Int) + 1 = ((i + 1 : Nat) : Int) := rfl
      have b6 : i + 1 ≤ es.length := h4
      have b7 : es.length - ((i : Int) + 1).toNat < es.length - i := by omega
      refine fun _ => ⟨fun _ => ⟨h4, fun _ => ⟨fun q => (no (by simp [heldM1, q])).symm, fun q0 => ⟨h4, fun _ => ⟨fun q => (no (by simp [heldM1, q])).symm, fun q1 => ⟨h4, fun _ => ⟨fun q => (no (by simp [heldM1, q])).symm, fun q2 =>
        ⟨h4, fun _ => ⟨fun q => (no (by simp [heldM1, q])).symm, fun q3 => ⟨h4, fun _ => ⟨fun q => (no (by simp [heldM1, q])).symm, fun q4 => ⟨h4, fun _ => ⟨fun q => (no (by simp [heldM1, q])).symm, fun q5 =>
        ⟨h4, fun _ => ⟨fun q => (no (by simp [heldM1, q])).symm, fun q6 => ⟨h4, fun _ => ⟨fun q => (no (by simp [heldM1, mod3, q])).symm, fun q7 => ⟨h4, fun _ => ?_⟩⟩⟩⟩⟩⟩⟩⟩⟩⟩⟩⟩⟩⟩⟩⟩⟩, fun h => (b4 h).elim⟩
      refine ⟨b1, fun q => (no ?_).symm, fun q8 => ?_⟩
      · have := b2 q
        rw [hH] at this
        simp [heldM1, this]
      · have a2 := b3 q8
        have a3 : heldM1 K (nth es i) = true := by rw [hH] at a2; simp [heldM1, q0, q1, q2, q3, q4, q5, q6, q7, a2, mod3]
        rw [if_pos a3] at h3
        refine ⟨⟨i + 1, ⟨?_, b5⟩, b6, ?_⟩, b7⟩
        · rw [take_nth h4, sumMs_snoc, ← hK, a2]
        · rw [take_nth h4, sumMs_snoc, ← hK, h3]
    · have : i = es.length := by omega
      subst this
      refine fun _ => ⟨fun h => absurd h (Nat.lt_irrefl _), fun _ => ?_⟩
      rw [h3, List.drop_length]; rfl
end Go.Proofs.YtkofjkjcbljkdaaGreatDoor
end

section
namespace Go.Proofs.YtkofjkjcbljkdaaGreatDoor
variable [LaidG]
set_option maxRecDepth 100000
set_option linter.unusedSimpArgs false
def entB (t : Int) (p : Int) : List PV → Bool
  | [] => true
  | e :: es => leB (nth e.A 1).S.length 400 && inB (nth e.A 0).I 1 t && leB p (nth e.A 0).I && entB t (nth e.A 0).I es
def voB (n p : Int) : List PV → Bool
  | [] => true
  | e :: es => inB e.I 0 (n - 1) && decide (p < e.I) && voB n e.I es
def nmB (l : Int) : List PV → List PV → Bool
  | x :: xs, m :: ms => inB x.I 1 (l + 1) && inB m.I 0 (x.I - 1) && nmB l xs ms
  | _, _ => true
structure ND where
  id : Int
  nodes : Int
  term : Int
  vote : Int
  role : Int
  up : Bool
  log : List PV
  com : Int
  ela : Int
  wt : Int
  vs : List PV
  nx : List PV
  ms : List PV
def ND.pv (n : ND) : PV := .agg [.int .i64 n.id, .int .i64 n.nodes, .int .i64 n.term, .int .i64 n.vote, .int .i64 n.role, .bool n.up, .list n.log, .int .i64 n.com, .int .i64 n.ela, .int .i64 n.wt, .list n.vs, .list n.nx, .list n.ms]
def ndOf (v : List PV) : ND := ⟨(nth v 0).I, (nth v 1).I, (nth v 2).I, (nth v 3).I, (nth v 4).I, (nth v 5).B, (nth v 6).L, (nth v 7).I, (nth v 8).I, (nth v 9).I, (nth v 10).L, (nth v 11).L, (nth v 12).L⟩
def ND.no : ND := ⟨0, 0, 0, 0, 0, false, [], 0, 0, 0, [], [], []⟩
end Go.Proofs.YtkofjkjcbljkdaaGreatDoor
end

section
namespace Go.Proofs.YtkofjkjcbljkdaaGreatDoor
variable [LaidG]
set_option maxRecDepth 100000
set_option linter.unusedSimpArgs false
def c_Mul64 : FSpec := ⟨[(.rd, .int .u64), (.rd, .int .u64)], [.int .u64, .int .u64], true, fun ps => (nth ps 0).I = 1 ∧ 0 ≤ (nth ps 1).I ∧ (nth ps 1).I ≤ 5, fun ps => [.int .u64 0, .int .u64 (nth ps 1).I], fun _ => []⟩
theorem k_Mul64 : FnOk Tryz.prog 263 c_Mul64 := by
  refine fn_mk [0, 1, 4, 5, 6, 7, 8, 9, 10, 11, 12, 13] [.tmp 4, .tmp 5] (env_nil (tyTab_ok [])) mixed Tryz.func263 rfl (by decide) rfl (by decide) rfl ?_
  intro ps hT hpre W hW
  simp only [c_Mul64, TyA, Ty, Tys] at hT hpre
  obtain ⟨_, _, rfl, ⟨x, rfl, hx⟩, _, _, rfl, ⟨y, rfl, hy⟩, rfl⟩ := hT
  simp only [nth_zero, nth_succ, pv_I] at hpre
  obtain ⟨rfl, h1, h2⟩ := hpre
  refine hW.vc [] _ _ ?_
  simp [-List.getD_eq_getElem?_getD, c_Mul64]
  obtain rfl | rfl | rfl | rfl | rfl | rfl : y = 0 ∨ y = 1 ∨ y = 2 ∨ y = 3 ∨ y = 4 ∨ y = 5 := by omega
  all_goals decide +kernel
def c_Mul : FSpec := c_Mul64
theorem k_Mul : FnOk Tryz.prog 255 c_Mul := by
  refine fn_mk [0, 1, 4, 5, 6, 7, 8, 9] [.tmp 4, .tmp 5] (env_cons (cs := []) k_Mul64 (env_nil (tyTab_ok []))) mixed Tryz.func255 rfl (by decide) rfl (by decide) rfl ?_
  intro ps hT hpre W hW
  simp only [c_Mul, TyA, Ty, Tys] at hT hpre
  simp only [c_Mul64, TyA, Ty, Tys] at hT hpre
  obtain ⟨_, _, rfl, ⟨x, rfl, hx⟩, _, _, rfl, ⟨y, rfl, hy⟩, rfl⟩ := hT
  simp only [nth_zero, nth_succ, pv_I] at hpre
  refine hW.vc [] _ _ ?_
  simp [-List.getD_eq_getElem?_getD, c_Mul, c_Mul64]
  exact hpre
theorem rep_step {x z : PV} {m k q : Nat} : (List.replicate k x ++ List.replicate (m - k) z).drop (k + q) = List.replicate (m - (k + q)) z := by
  rw [List.drop_append, List.drop_replicate, List.drop_replicate, List.length_replicate]
  have e1 : k - (k + q) = 0 := by omega
  have e3 : m - k - (k + q - k) = m - (k + q) := by omega
  rw [e1, e3, List.replicate_zero, List.nil_append]
def c_Repeat : FSpec := ⟨[(.rd, .list (.int .i64)), (.rd, .int .i64)], [.list (.int .i64)], true, fun ps => (nth ps 0).L.length = 1 ∧ 1 ≤ (nth ps 1).I ∧ (nth ps 1).I ≤ 5, fun ps => [.list (List.replicate (nth ps 1).I.toNat (nth (nth ps 0).L 0))], fun _ => []⟩
theorem k_Repeat : FnOk Tryz.prog 247 c_Repeat := by
  refine fn_mk [0, 1, 4, 5, 6, 7, 8] [.tmp 4] (env_cons (cs := []) k_Mul (env_nil (tyTab_ok []))) mixed Tryz.func247 rfl (by decide) rfl (by decide) rfl ?_
  intro ps hT hpre W hW
  simp only [c_Repeat, TyA, Ty, Tys] at hT hpre
  obtain ⟨_, _, rfl, ⟨es, rfl, hes, tes⟩, _, _, rfl, ⟨c, rfl, hc⟩, rfl⟩ := hT
  simp only [nth_zero, nth_succ, pv_I, pv_L] at hpre
  obtain ⟨h1, h2, h3⟩ := hpre
  refine hW.vc [(9, [7], .take 0 <| .take 1 <| .take 2 <| .take 3 <| .take 4 <| .take 5 <| .take 6 <| .alt 7 (.take 8 <| .alt 9 (.done) .stop) .stop)] _ _ ?_
  simp [-List.getD_eq_getElem?_getD, c_Repeat, c_Mul, c_Mul64, c_Mul64]
  obtain ⟨x, rfl⟩ := List.length_eq_one_iff.1 h1
  have e1 : IntKind.u64.wrap c = c := wrapU64 (by omega)
  have e2 : IntKind.i64.wrap c = c := wrap64 (by omega)
  rw [e1, e2]
  refine ⟨fun h => absurd h (by omega), fun _ _ => ⟨⟨by simp [IntKind.wrap, IntKind.signed, IntKind.bits], by omega, by omega⟩, fun h => absurd h (by omega), fun _ => ⟨⟨by omega, by omega, by omega⟩, ?_⟩⟩⟩
  obtain ⟨m, rfl⟩ : ∃ m : Nat, c = m := ⟨c.toNat, by omega⟩
  have e3 : min 1 m = 1 := by omega
  have e4 : List.take m [x] = [x] := List.take_of_length_le (by simp; omega)
  simp only [Int.toNat_natCast, List.length_singleton, e3, e4]
  refine hW.loopS _ _ _ [.sl 7 .dp (.list (.int .i64)), .sl 8 .dp (.int .i64)] (fun ys => ∃ k : Nat, ys = [.list (List.replicate k x ++ List.replicate (m - k) (.int .i64 0)), .int .i64 k] ∧ 1 ≤ k ∧ k ≤ m) (fun ys => m - (nth ys 1).I.toNat) ?_ ?_
  · simp [-List.getD_eq_getElem?_getD, c_Repeat, c_Mul, c_Mul64]
    exact ⟨1, ⟨rfl, rfl⟩, by omega, by omega⟩
  · rintro ys ⟨k, rfl, g1, g2⟩
    refine hW.vc [(9, [7], .take 0 <| .take 1 <| .take 2 <| .take 3 <| .take 4 <| .take 5 <| .take 6 <| .alt 7 (.take 8 <| .alt 9 (.done) .stop) .stop)] _ _ ?_
    simp [-List.getD_eq_getElem?_getD, c_Repeat, c_Mul, c_Mul64, c_Mul64]
    have e5 : ((k : Int) + ((m - k : Nat) : Int)).toNat - k = m - k := by omega
    simp only [e5, Nat.min_self, Nat.min_comm (m - k) k, rep_step]
    have e6 : 1 ≤ m - k → 1 ≤ min k (m - k) := fun h => by omega
    have e8 : min (m - k) (min k (m - k)) = min k (m - k) := by omega
    have e7 : min k (m - k) ≤ m - k := by omega
    rw [wrap64 (by omega)]
    refine fun _ => ⟨fun h => ⟨by decide +kernel, by omega, fun _ => ⟨by omega, fun _ => ⟨⟨k + min k (m - k), ⟨by rw [e8], by omega⟩, by omega, by omega⟩, by omega⟩⟩⟩, fun h => ?_⟩
    have : k = m := by omega
    subst this
    simp
def c_reset : FSpec := ⟨[(.bx, .box [.int .i64, .int .i64, .int .i64, .int .i64, .int .i64, .bool, .list (.agg [.int .i64, .str]), .int .i64, .int .i64, .int .i64, .list (.int .i64), .list (.int .i64), .list (.int .i64)]), (.rd, .int .i64)], [], true, fun ps => 1 ≤ (nth (nth ps 0).A 1).I ∧ (nth (nth ps 0).A 1).I ≤ 5, fun _ => [],
  fun ps => [.agg [nth (nth ps 0).A 0, nth (nth ps 0).A 1, nth (nth ps 0).A 2, nth (nth ps 0).A 3, nth (nth ps 0).A 4, nth (nth ps 0).A 5, nth (nth ps 0).A 6, nth (nth ps 0).A 7, nth (nth ps 0).A 8, nth (nth ps 0).A 9, nth (nth ps 0).A 10,
    .list (List.replicate (nth (nth ps 0).A 1).I.toNat (.int .i64 (nth ps 1).I)), .list (List.replicate (nth (nth ps 0).A 1).I.toNat (.int .i64 0))]]⟩
theorem k_reset : FnOk Tryz.prog 220 c_reset := by
  refine fn_mk [0, 1] [] (env_cons (cs := []) k_Repeat (env_nil (tyTab_ok []))) mixed Tryz.func220 rfl (by decide) rfl (by decide) rfl ?_
  intro ps hT hpre W hW
  simp only [c_reset, TyA, Ty, Tys] at hT hpre
  obtain ⟨_, _, rfl, ⟨_, rfl, _, _, rfl, ⟨n0, rfl, hn0⟩, _, _, rfl, ⟨n1, rfl, hn1⟩, _, _, rfl, ⟨n2, rfl, hn2⟩, _, _, rfl, ⟨n3, rfl, hn3⟩, _, _, rfl, ⟨n4, rfl, hn4⟩, _, _, rfl, ⟨u, rfl⟩, _, _, rfl, ⟨es, rfl, hes, tes⟩, _, _, rfl, ⟨n5, rfl, hn5⟩, _, _, rfl, ⟨n6, rfl, hn6⟩, _, _, rfl, ⟨n7, rfl, hn7⟩, _, _, rfl, ⟨vs, rfl, hvs, tvs⟩, _, _, rfl, ⟨xs, rfl, hxs, txs⟩, _, _, rfl, ⟨ms, rfl, hms, tms⟩, rfl⟩, _, _, rfl, ⟨x, rfl, hx⟩, rfl⟩ := hT
  simp only [nth_zero, nth_succ, pv_I, pv_L, pv_A] at hpre
  refine hW.vc [(0, [16, 19], .take 0 <| .take 1 <| .take 2 <| .take 4 <| .take 5 <| .take 6 <| .take 7 <| .take 9 <| .take 10 <| .take 11 <| .take 12 <| .alt 3 (.alt 8 (.take 14 <| .take 15 <| .alt 13 (.alt 16 (.take 17 <| .take 18 <| .alt 19 (.done) .stop) .stop) (.alt 16 (.alt 13 (.take 17 <| .take 18 <| .alt 19 (.done) .stop) .stop) .stop)) (.alt 13 (.alt 8 (.take 14 <| .take 15 <| .alt 16 (.take 17 <| .take 18 <| .alt 19 (.done) .stop) .stop) .stop) .stop)) (.alt 13 (.alt 3 (.alt 8 (.take 14 <| .take 15 <| .alt 16 (.take 17 <| .take 18 <| .alt 19 (.done) .stop) .stop) .stop) .stop) .stop))] _ _ ?_
  simp [-List.getD_eq_getElem?_getD, c_reset, c_Repeat]
  exact ⟨by decide +kernel, ⟨hpre, by omega, by omega, by omega⟩, ⟨by omega, by omega, by omega⟩, hpre⟩
end Go.Proofs.YtkofjkjcbljkdaaGreatDoor
end

section
namespace Go.Proofs.YtkofjkjcbljkdaaGreatDoor
variable [LaidG]
set_option maxRecDepth 100000
set_option linter.unusedSimpArgs false
structure NdF (n : ND) : Prop where
  n1 : 1 ≤ n.nodes
  n5 : n.nodes ≤ 5
  i0 : 0 ≤ n.id
  i1 : n.id ≤ n.nodes - 1
  t0 : 0 ≤ n.term
  t1 : n.term ≤ 1000
  en : entB n.term 0 n.log = true
  l6 : n.log.length ≤ 60
  r0 : 0 ≤ n.role
  r2 : n.role ≤ 2
  ur : n.up = true ∨ n.role = 0
  c0 : 0 ≤ n.com
  c1 : n.com ≤ n.log.length
  e0 : 0 ≤ n.ela
  e1 : n.ela ≤ 1000
  w5 : 5 ≤ n.wt
  w1 : n.wt ≤ 100
  nx : (n.nx.length : Int) = n.nodes
  ms : (n.ms.length : Int) = n.nodes
  vo : voB n.nodes (-1) n.vs = true
  nm : nmB n.log.length n.nx n.ms = true
  vt : -1 ≤ n.vote ∧ n.vote ≤ 4 ∧ n.vote < n.nodes
end Go.Proofs.YtkofjkjcbljkdaaGreatDoor
end

section
namespace Go.Proofs.YtkofjkjcbljkdaaGreatDoor
variable [LaidG]
set_option maxRecDepth 100000
set_option linter.unusedSimpArgs false
structure MG where
  kind : Int
  frm : Int
  to : Int
  term : Int
  idx : Int
  lt : Int
  com : Int
  ok : Bool
  es : List PV
def MG.pv (m : MG) : PV := .agg [.int .i64 m.kind, .int .i64 m.frm, .int .i64 m.to, .int .i64 m.term, .int .i64 m.idx, .int .i64 m.lt, .int .i64 m.com, .bool m.ok, .list m.es]
def followN (n : ND) : ND := { n with role := 0, vs := [], nx := List.replicate n.nodes.toNat (.int .i64 1), ms := List.replicate n.nodes.toNat (.int .i64 0) }
def c_follow : FSpec := ⟨[(.bx, .box [.int .i64, .int .i64, .int .i64, .int .i64, .int .i64, .bool, .list (.agg [.int .i64, .str]), .int .i64, .int .i64, .int .i64, .list (.int .i64), .list (.int .i64), .list (.int .i64)])], [], true, fun ps => 1 ≤ (nth (nth ps 0).A 1).I ∧ (nth (nth ps 0).A 1).I ≤ 5, fun _ => [], fun ps => [(followN (ndOf (nth ps 0).A)).pv]⟩
theorem k_follow : FnOk Tryz.prog 178 c_follow := by
  refine fn_mk [0] [] (env_cons (cs := []) k_reset (env_nil (tyTab_ok []))) mixed Tryz.func178 rfl (by decide) rfl (by decide) rfl ?_
  intro ps hT hpre W hW
  simp only [c_follow, TyA, Ty, Tys] at hT hpre
  obtain ⟨_, _, rfl, ⟨_, rfl, _, _, rfl, ⟨n0, rfl, hn0⟩, _, _, rfl, ⟨n1, rfl, hn1⟩, _, _, rfl, ⟨n2, rfl, hn2⟩, _, _, rfl, ⟨n3, rfl, hn3⟩, _, _, rfl, ⟨n4, rfl, hn4⟩, _, _, rfl, ⟨u, rfl⟩, _, _, rfl, ⟨es, rfl, hes, tes⟩, _, _, rfl, ⟨n5, rfl, hn5⟩, _, _, rfl, ⟨n6, rfl, hn6⟩, _, _, rfl, ⟨n7, rfl, hn7⟩, _, _, rfl, ⟨vs, rfl, hvs, tvs⟩, _, _, rfl, ⟨xs, rfl, hxs, txs⟩, _, _, rfl, ⟨ms, rfl, hms, tms⟩, rfl⟩, rfl⟩ := hT
  simp only [nth_zero, nth_succ, pv_I, pv_L, pv_A] at hpre
  refine hW.vc [] _ _ ?_
  simp [-List.getD_eq_getElem?_getD, c_follow, c_reset, ndOf, ND.pv, followN]
  exact hpre
end Go.Proofs.YtkofjkjcbljkdaaGreatDoor
end

section
namespace Go.Proofs.YtkofjkjcbljkdaaGreatDoor
variable [LaidG]
set_option maxRecDepth 100000
set_option linter.unusedSimpArgs false
end Go.Proofs.YtkofjkjcbljkdaaGreatDoor
end

section
namespace Go.Proofs.YtkofjkjcbljkdaaGreatDoor
variable [LaidG]
open Go.Shelf Go.RowKit Go.Lib
set_option linter.unusedVariables false
section
variable {P : Program} {ρ : Ren} {w : World}
end
end Go.Proofs.YtkofjkjcbljkdaaGreatDoor
end

section
namespace Go.Proofs.YtkofjkjcbljkdaaGreatDoor
variable [LaidG]
open Go.Shelf
set_option maxRecDepth 100000
end Go.Proofs.YtkofjkjcbljkdaaGreatDoor
end

section
namespace Go.Proofs.YtkofjkjcbljkdaaGreatDoor
variable [LaidG]
set_option maxRecDepth 100000
set_option linter.unusedSimpArgs false
structure MgF (n : ND) (m : MG) : Prop where
  k1 : 1 ≤ m.kind
  k4 : m.kind ≤ 4
  f0 : 0 ≤ m.frm
  f1 : m.frm < n.nodes
  t1 : 1 ≤ m.term
  tM : m.term ≤ 1000
  i0 : 0 ≤ m.idx
  i6 : m.idx ≤ 60
  c0 : 0 ≤ m.com
  c6 : m.com ≤ 60
  es : m.es.length ≤ 60
end Go.Proofs.YtkofjkjcbljkdaaGreatDoor
end

section
namespace Go.Proofs.YtkofjkjcbljkdaaGreatDoor
variable [LaidG]
set_option maxRecDepth 100000
set_option linter.unusedSimpArgs false
end Go.Proofs.YtkofjkjcbljkdaaGreatDoor
end

section
namespace Go.Proofs.YtkofjkjcbljkdaaGreatDoor
variable [LaidG]
set_option maxRecDepth 100000
set_option linter.unusedSimpArgs false
def c_l08Nodes : FSpec := ⟨[(.rd, .int .i64)], [.bool], true, fun _ => True, fun ps => [.bool (inB (nth ps 0).I 1 5)], fun _ => []⟩
theorem k_l08Nodes : FnOk Tryz.prog 44 c_l08Nodes := by
  refine fn_mk [0, 2] [.tmp 2] (env_cons (cs := []) k_l01In (env_nil (tyTab_ok []))) mixed Tryz.func44 rfl (by decide) rfl (by decide) rfl ?_
  intro ps hT hpre W hW
  simp only [c_l08Nodes, TyA, Ty, Tys] at hT hpre
  obtain ⟨_, _, rfl, ⟨n, rfl, hn⟩, rfl⟩ := hT
  refine hW.vc [] _ _ ?_
  simp [-List.getD_eq_getElem?_getD, c_l08Nodes, c_l01In, c_within, c_within]
end Go.Proofs.YtkofjkjcbljkdaaGreatDoor
end

section
namespace Go.Proofs.YtkofjkjcbljkdaaGreatDoor
variable [LaidG]
set_option maxRecDepth 100000
set_option linter.unusedSimpArgs false
end Go.Proofs.YtkofjkjcbljkdaaGreatDoor
end

section
namespace Go.Proofs.YtkofjkjcbljkdaaGreatDoor
variable [LaidG]
set_option maxRecDepth 100000
set_option linter.unusedSimpArgs false
end Go.Proofs.YtkofjkjcbljkdaaGreatDoor
end

section
namespace Go.Proofs.YtkofjkjcbljkdaaGreatDoor
variable [LaidG]
set_option maxRecDepth 100000
set_option linter.unusedSimpArgs false
end Go.Proofs.YtkofjkjcbljkdaaGreatDoor
end

section
namespace Go.Proofs.YtkofjkjcbljkdaaGreatDoor
variable [LaidG]
set_option maxRecDepth 100000
set_option linter.unusedSimpArgs false
end Go.Proofs.YtkofjkjcbljkdaaGreatDoor
end

section
namespace Go.Proofs.YtkofjkjcbljkdaaGreatDoor
variable [LaidG]
set_option maxRecDepth 100000
set_option linter.unusedSimpArgs false
end Go.Proofs.YtkofjkjcbljkdaaGreatDoor
end

section
namespace Go.Proofs.YtkofjkjcbljkdaaGreatDoor
variable [LaidG]
set_option maxRecDepth 100000
set_option linter.unusedSimpArgs false
end Go.Proofs.YtkofjkjcbljkdaaGreatDoor
end

section
namespace Go.Proofs.YtkofjkjcbljkdaaGreatDoor
variable [LaidG]
set_option maxRecDepth 100000
set_option linter.unusedSimpArgs false
end Go.Proofs.YtkofjkjcbljkdaaGreatDoor
end

section
namespace Go.Proofs.YtkofjkjcbljkdaaGreatDoor
variable [LaidG]
set_option maxRecDepth 100000
set_option linter.unusedSimpArgs false
theorem eqS_refl (es : List PV) : eqL (fun x y => x.S == y.S) es es = true := eqL_refl fun _ => by simp
end Go.Proofs.YtkofjkjcbljkdaaGreatDoor
end

section
namespace Go.Proofs.YtkofjkjcbljkdaaGreatDoor
variable [LaidG]
set_option maxRecDepth 100000
set_option linter.unusedSimpArgs false
structure MR where
  n : Int
  w : Int
  h : Int
  r : List PV
def MR.pv (m : MR) : PV := .agg [.int .i64 m.n, .int .i64 m.w, .int .i64 m.h, .list m.r]
def MR.no : MR := ⟨0, 0, 0, []⟩
def MR.ls (m : MR) : List PV := [.int .i64 m.n, .int .i64 m.w, .int .i64 m.h, .list m.r]
def VW.ls (v : VW) : List PV := [.int .i64 v.n, .int .i64 v.f, .bool v.u, .int .i64 v.w, .int .i64 v.h, .list v.r]
theorem eqMir_refl (v : List PV) : eqMir v v = true := by simp [eqMir, eqS_refl]
end Go.Proofs.YtkofjkjcbljkdaaGreatDoor
end

section
namespace Go.Proofs.YtkofjkjcbljkdaaGreatDoor
variable [LaidG]
set_option maxRecDepth 100000
set_option linter.unusedSimpArgs false
def eqCli (a b : List PV) : Bool := (nth a 0).I == (nth b 0).I && (nth a 1).S == (nth b 1).S && (nth a 2).S == (nth b 2).S && eqMir [nth a 3, nth a 4, nth a 5, nth a 6] [nth b 3, nth b 4, nth b 5, nth b 6]
theorem eqCli_refl (a : List PV) : eqCli a a = true := by simp [eqCli, eqMir_refl]
def c_eqClient : FSpec := ⟨[(.rd, .agg [.int .i64, .str, .str, .int .i64, .int .i64, .int .i64, .list .str]), (.rd, .agg [.int .i64, .str, .str, .int .i64, .int .i64, .int .i64, .list .str])], [.bool], true, fun _ => True, fun ps => [.bool (eqCli (nth ps 0).A (nth ps 1).A)], fun _ => []⟩
theorem k_eqClient : FnOk Tryz.prog 84 c_eqClient := by
  refine fn_mk [0, 1, 2, 3, 4] [.tmp 4] (env_cons (cs := []) k_eqMirror (env_nil (tyTab_ok []))) mixed Tryz.func84 rfl (by decide) rfl (by decide) rfl ?_
  intro ps hT hpre W hW
  simp only [c_eqClient, TyA, Ty, Tys] at hT hpre
  obtain ⟨_, _, rfl, ⟨_, rfl, _, _, rfl, ⟨c, rfl, hc⟩, _, _, rfl, ⟨t, rfl, ht⟩, _, _, rfl, ⟨k, rfl, hk⟩, _, _, rfl, ⟨n, rfl, hn⟩, _, _, rfl, ⟨w, rfl, hw⟩, _, _, rfl, ⟨h, rfl, hh⟩, _, _, rfl, ⟨rs, rfl, hrs, trs⟩, rfl⟩, _, _, rfl, ⟨_, rfl, _, _, rfl, ⟨c', rfl, hc'⟩, _, _, rfl, ⟨t', rfl, ht'⟩, _, _, rfl, ⟨k', rfl, hk'⟩, _, _, rfl, ⟨n', rfl, hn'⟩, _, _, rfl, ⟨w', rfl, hw'⟩, _, _, rfl, ⟨h', rfl, hh'⟩, _, _, rfl, ⟨rs', rfl, hrs', trs'⟩, rfl⟩, rfl⟩ := hT
  refine hW.vc [] _ _ ?_
  simp [-List.getD_eq_getElem?_getD, c_eqClient, c_eqMirror]
  simp only [eqCli, nth_zero, nth_succ, pv_I, pv_S]
  exact ⟨fun q1 => by simp [q1], fun q1 => ⟨fun q2 => by simp [q2], fun q2 => ⟨fun q3 => by simp [q3], fun q3 => ⟨fun q4 => by simp [q4], fun q4 => by simp [q1, q2, q3, q4]⟩⟩⟩⟩
end Go.Proofs.YtkofjkjcbljkdaaGreatDoor
end

section
namespace Go.Proofs.YtkofjkjcbljkdaaGreatDoor
variable [LaidG]
set_option maxRecDepth 100000
set_option linter.unusedSimpArgs false
def eqNd2 (a b : PV) : Bool := eqNd a.A b.A
theorem eqNds_refl (es : List PV) : eqL eqNd2 es es = true := eqL_refl fun _ => eqNd_refl _
def c_eqNodeS : FSpec := ⟨[(.rd, .list (.agg [.int .i64, .int .i64, .int .i64, .int .i64, .int .i64, .bool, .list (.agg [.int .i64, .str]), .int .i64, .int .i64, .int .i64, .list (.int .i64), .list (.int .i64), .list (.int .i64)])), (.rd, .list (.agg [.int .i64, .int .i64, .int .i64, .int .i64, .int .i64, .bool, .list (.agg [.int .i64, .str]), .int .i64, .int .i64, .int .i64, .list (.int .i64), .list (.int .i64), .list (.int .i64)]))], [.bool], true, fun _ => True, fun ps => [.bool (eqL eqNd2 (nth ps 0).L (nth ps 1).L)], fun _ => []⟩
theorem k_eqNodeS : FnOk Tryz.prog 80 c_eqNodeS := by
  refine fn_mk [0, 1, 4, 5] [.tmp 4] (env_cons (cs := []) k_eqNode (env_nil (tyTab_ok []))) mixed Tryz.func80 rfl (by decide) rfl (by decide) rfl ?_
  intro ps hT hpre W hW
  simp only [c_eqNodeS, TyA, Ty, Tys] at hT hpre
  obtain ⟨_, _, rfl, ⟨es, rfl, hes, tes⟩, _, _, rfl, ⟨es2, rfl, hes2, tes2⟩, rfl⟩ := hT
  refine hW.vc [(6, [], .take 0 <| .take 1 <| .take 2 <| .take 3 <| .take 4 <| .take 5 <| .take 6 <| .take 7 <| .alt 8 (.take 9 <| .done) .stop)] _ _ ?_
  simp [-List.getD_eq_getElem?_getD, c_eqNodeS, c_eqNode]
  refine fun h1 h2 => ⟨fun h3 => eqL_len (by omega), fun h3 => ?_⟩
  refine hW.loopS _ _ _ [.sl 5 .dp (.int .i64)] (fun ys => ∃ i : Nat, ys = [.int .i64 i] ∧ i ≤ es.length ∧ eqL eqNd2 es es2 = eqL eqNd2 (es.drop i) (es2.drop i)) (fun ys => es.length - (nth ys 0).I.toNat) ?_ ?_
  · simp [-List.getD_eq_getElem?_getD, c_eqNodeS, c_eqNode]
    exact ⟨0, rfl, by simp, by simp⟩
  · rintro ys ⟨i, rfl, h4, h5⟩
    refine hW.vc [(6, [], .take 0 <| .take 1 <| .take 2 <| .take 3 <| .take 4 <| .take 5 <| .take 6 <| .take 7 <| .alt 8 (.take 9 <| .done) .stop)] _ _ ?_
    simp [-List.getD_eq_getElem?_getD, c_eqNodeS, c_eqNode]
    refine fun _ => ⟨fun h6 => ⟨by decide +kernel, h6, ?_⟩, fun h6 => ?_⟩
    · intros
      refine ⟨by omega, ?_⟩
      intros
      rw [drop_nth h6, drop_nth (by omega : i < es2.length), eqL] at h5
      rw [wrap64 (n := (i : Int) + 1) (by omega)]
      refine ⟨fun h7 => ?_, fun h7 => ⟨⟨i + 1, by omega, by omega, ?_⟩, by omega⟩⟩
      · have h8 : eqNd2 (nth es i) (nth es2 i) = false := h7
        rw [h5, h8]; rfl
      · have h8 : eqNd2 (nth es i) (nth es2 i) = true := h7
        rw [h5, h8, Bool.true_and]
    · rw [h5, List.drop_eq_nil_of_le h6, List.drop_eq_nil_of_le (by omega)]; rfl
def eqSto (a b : List PV) : Bool := (nth a 0).S == (nth b 0).S && (nth a 1).I == (nth b 1).I
def eqSto2 (a b : PV) : Bool := eqSto a.A b.A
theorem eqSto_refl (a : List PV) : eqSto a a = true := by simp [eqSto]
theorem eqStos_refl (es : List PV) : eqL eqSto2 es es = true := eqL_refl fun _ => eqSto_refl _
def c_eqStore : FSpec := ⟨[(.rd, .agg [.str, .int .i64]), (.rd, .agg [.str, .int .i64])], [.bool], true, fun _ => True, fun ps => [.bool (eqSto (nth ps 0).A (nth ps 1).A)], fun _ => []⟩
theorem k_eqStore : FnOk Tryz.prog 134 c_eqStore := by
  refine fn_mk [0, 1, 2, 3, 4] [.tmp 4] (env_nil (tyTab_ok [])) mixed Tryz.func134 rfl (by decide) rfl (by decide) rfl ?_
  intro ps hT hpre W hW
  simp only [c_eqStore, TyA, Ty, Tys] at hT hpre
  obtain ⟨_, _, rfl, ⟨_, rfl, _, _, rfl, ⟨c, rfl, hc⟩, _, _, rfl, ⟨y, rfl, hy⟩, rfl⟩, _, _, rfl, ⟨_, rfl, _, _, rfl, ⟨c', rfl, hc'⟩, _, _, rfl, ⟨y', rfl, hy'⟩, rfl⟩, rfl⟩ := hT
  refine hW.vc [] _ _ ?_
  simp [-List.getD_eq_getElem?_getD, c_eqStore]
  simp only [eqSto, nth_zero, nth_succ, pv_I, pv_S]
  exact ⟨fun q1 => by simp [q1], fun q1 => ⟨fun q2 => by simp [q2], fun q2 => by simp [q1, q2]⟩⟩
def c_eqStoreS : FSpec := ⟨[(.rd, .list (.agg [.str, .int .i64])), (.rd, .list (.agg [.str, .int .i64]))], [.bool], true, fun _ => True, fun ps => [.bool (eqL eqSto2 (nth ps 0).L (nth ps 1).L)], fun _ => []⟩
theorem k_eqStoreS : FnOk Tryz.prog 81 c_eqStoreS := by
  refine fn_mk [0, 1, 4, 5] [.tmp 4] (env_cons (cs := []) k_eqStore (env_nil (tyTab_ok []))) mixed Tryz.func81 rfl (by decide) rfl (by decide) rfl ?_
  intro ps hT hpre W hW
  simp only [c_eqStoreS, TyA, Ty, Tys] at hT hpre
  obtain ⟨_, _, rfl, ⟨es, rfl, hes, tes⟩, _, _, rfl, ⟨es2, rfl, hes2, tes2⟩, rfl⟩ := hT
  refine hW.vc [(6, [], .take 0 <| .take 1 <| .take 2 <| .take 3 <| .take 4 <| .take 5 <| .take 6 <| .take 7 <| .alt 8 (.take 9 <| .done) .stop)] _ _ ?_
  simp [-List.getD_eq_getElem?_getD, c_eqStoreS, c_eqStore]
  refine fun h1 h2 => ⟨fun h3 => eqL_len (by omega), fun h3 => ?_⟩
  refine hW.loopS _ _ _ [.sl 5 .dp (.int .i64)] (fun ys => ∃ i : Nat, ys = [.int .i64 i] ∧ i ≤ es.length ∧ eqL eqSto2 es es2 = eqL eqSto2 (es.drop i) (es2.drop i)) (fun ys => es.length - (nth ys 0).I.toNat) ?_ ?_
  · simp [-List.getD_eq_getElem?_getD, c_eqStoreS, c_eqStore]
    exact ⟨0, rfl, by simp, by simp⟩
  · rintro ys ⟨i, rfl, h4, h5⟩
    refine hW.vc [(6, [], .take 0 <| .take 1 <| .take 2 <| .take 3 <| .take 4 <| .take 5 <| .take 6 <| .take 7 <| .alt 8 (.take 9 <| .done) .stop)] _ _ ?_
    simp [-List.getD_eq_getElem?_getD, c_eqStoreS, c_eqStore]
    refine fun _ => ⟨fun h6 => ⟨by decide +kernel, h6, ?_⟩, fun h6 => ?_⟩
    · intros
      refine ⟨by omega, ?_⟩
      intros
      rw [drop_nth h6, drop_nth (by omega : i < es2.length), eqL] at h5
      rw [wrap64 (n := (i : Int) + 1) (by omega)]
      refine ⟨fun h7 => ?_, fun h7 => ⟨⟨i + 1, by omega, by omega, ?_⟩, by omega⟩⟩
      · have h8 : eqSto2 (nth es i) (nth es2 i) = false := h7
        rw [h5, h8]; rfl
      · have h8 : eqSto2 (nth es i) (nth es2 i) = true := h7
        rw [h5, h8, Bool.true_and]
    · rw [h5, List.drop_eq_nil_of_le h6, List.drop_eq_nil_of_le (by omega)]; rfl
def eqClu (a b : List PV) : Bool := eqL eqNd2 (nth a 0).L (nth b 0).L && eqL eqSto2 (nth a 1).L (nth b 1).L && eqL eqMg2 (nth a 2).L (nth b 2).L && eqL (fun x y => x.S == y.S) (nth a 3).L (nth b 3).L
theorem eqClu_refl (a : List PV) : eqClu a a = true := by simp [eqClu, eqNds_refl, eqStos_refl, eqMs_refl, eqL_refl]
def c_eqCluster : FSpec := ⟨[(.rd, .agg [.list (.agg [.int .i64, .int .i64, .int .i64, .int .i64, .int .i64, .bool, .list (.agg [.int .i64, .str]), .int .i64, .int .i64, .int .i64, .list (.int .i64), .list (.int .i64), .list (.int .i64)]), .list (.agg [.str, .int .i64]), .list (.agg [.int .i64, .int .i64, .int .i64, .int .i64, .int .i64, .int .i64, .int .i64, .bool, .list (.agg [.int .i64, .str])]), .list .str]), (.rd, .agg [.list (.agg [.int .i64, .int .i64, .int .i64, .int .i64, .int .i64, .bool, .list (.agg [.int .i64, .str]), .int .i64, .int .i64, .int .i64, .list (.int .i64), .list (.int .i64), .list (.int .i64)]), .list (.agg [.str, .int .i64]), .list (.agg [.int .i64, .int .i64, .int .i64, .int .i64, .int .i64, .int .i64, .int .i64, .bool, .list (.agg [.int .i64, .str])]), .list .str])], [.bool], true, fun _ => True, fun ps => [.bool (eqClu (nth ps 0).A (nth ps 1).A)], fun _ => []⟩
theorem k_eqCluster : FnOk Tryz.prog 47 c_eqCluster := by
  refine fn_mk [0, 1, 2, 3, 4] [.tmp 4] (env_cons (cs := []) k_eqStringS (env_cons (cs := []) k_eqMessageS (env_cons (cs := []) k_eqStoreS (env_cons (cs := []) k_eqNodeS (env_nil (tyTab_ok [])))))) mixed Tryz.func47 rfl (by decide) rfl (by decide) rfl ?_
  intro ps hT hpre W hW
  simp only [c_eqCluster, TyA, Ty, Tys] at hT hpre
  obtain ⟨_, _, rfl, ⟨_, rfl, _, _, rfl, ⟨ns, rfl, hns, tns⟩, _, _, rfl, ⟨ss, rfl, hss, tss⟩, _, _, rfl, ⟨ws, rfl, hws, tws⟩, _, _, rfl, ⟨ds, rfl, hds, tds⟩, rfl⟩, _, _, rfl, ⟨_, rfl, _, _, rfl, ⟨ns', rfl, hns', tns'⟩, _, _, rfl, ⟨ss', rfl, hss', tss'⟩, _, _, rfl, ⟨ws', rfl, hws', tws'⟩, _, _, rfl, ⟨ds', rfl, hds', tds'⟩, rfl⟩, rfl⟩ := hT
  refine hW.vc [] _ _ ?_
  simp [-List.getD_eq_getElem?_getD, c_eqCluster, c_eqNodeS, c_eqStoreS, c_eqMessageS, c_eqStringS]
  simp only [eqClu, nth_zero, nth_succ, pv_L]
  trace_state
  exact ⟨fun q1 => by simp [q1], fun q1 => ⟨fun q2 => by simp [q2], fun q2 => ⟨fun q3 => by simp [q3], fun q3 => ⟨fun q4 => by simp [q4], fun q4 => by simp [q1, q2, q3, q4]⟩⟩⟩⟩
end Go.Proofs.YtkofjkjcbljkdaaGreatDoor
end

section
namespace Go.Proofs.YtkofjkjcbljkdaaGreatDoor
variable [LaidG]
set_option maxRecDepth 100000
set_option linter.unusedSimpArgs false
end Go.Proofs.YtkofjkjcbljkdaaGreatDoor
end

section
namespace Go.Proofs.YtkofjkjcbljkdaaGreatDoor
variable [LaidG]
set_option maxRecDepth 100000
set_option linter.unusedSimpArgs false
def sumF (d : PV → Int) (k : Int) : List PV → Int
  | [] => k
  | e :: es => sumF d (k + d e) es
def markF (d : PV → Int) (m : Int → PV → PV) (k : Int) : List PV → List PV
  | [] => []
  | e :: es => m k e :: markF d m (k + d e) es
def heldF (d : PV → Int) (f : Int → PV → Bool) (k : Int) : List PV → Int
  | [] => k
  | e :: es => if f k e then heldF d f (k + d e) es else -1
theorem sumF_snoc {d : PV → Int} (x : PV) : ∀ (es : List PV) (k : Int), sumF d k (es ++ [x]) = sumF d k es + d x
  | [], k => rfl
  | e :: es, k => by simp only [List.cons_append, sumF]; exact sumF_snoc x es _
theorem markF_snoc {d : PV → Int} {m : Int → PV → PV} (x : PV) : ∀ (es : List PV) (k : Int), markF d m k (es ++ [x]) = markF d m k es ++ [m (sumF d k es) x]
  | [], k => rfl
  | e :: es, k => by simp only [List.cons_append, markF, sumF]; rw [markF_snoc x es]
theorem markF_len {d : PV → Int} {m : Int → PV → PV} : ∀ (es : List PV) (k : Int), (markF d m k es).length = es.length
  | [], k => rfl
  | e :: es, k => by simp only [markF, List.length_cons, markF_len es]
theorem sumF_ge {d : PV → Int} (hd : ∀ e, 0 ≤ d e) : ∀ (es : List PV) (k : Int), k ≤ sumF d k es
  | [], k => Int.le_refl _
  | e :: es, k => by have := sumF_ge hd es (k + d e); have := hd e; simp only [sumF]; omega
theorem sumF_take {d : PV → Int} (hd : ∀ e, 0 ≤ d e) (es : List PV) (k : Int) {i : Nat} (h : i < es.length) : sumF d k (es.take i) + d (nth es i) ≤ sumF d k es := by
  induction es generalizing k i with
  | nil => simp at h
  | cons e es ih =>
    cases i with
    | zero => rw [nth_zero]; exact sumF_ge hd es (k + d e)
    | succ i => rw [nth_succ]; exact ih (k + d e) (by simpa using h)
theorem heldF_mark {d : PV → Int} {m : Int → PV → PV} {f : Int → PV → Bool} (h1 : ∀ k e, d (m k e) = d e) (h2 : ∀ k e, f k (m k e) = true) : ∀ (es : List PV) (k : Int), heldF d f k (markF d m k es) = sumF d k es
  | [], k => rfl
  | e :: es, k => by rw [markF, heldF, if_pos (h2 k e), h1, heldF_mark h1 h2 es, sumF]
theorem sumF_marks {d : PV → Int} {m : Int → PV → PV} (h1 : ∀ k e, d (m k e) = d e) : ∀ (es : List PV) (k k' : Int), sumF d k' (markF d m k es) = sumF d k' es
  | [], k, k' => rfl
  | e :: es, k, k' => by simp only [markF, sumF, h1]; exact sumF_marks h1 es _ _
def ndN (e : PV) : Int := 9 + 2 * (nth e.A 6).L.length + (nth e.A 10).L.length + (nth e.A 11).L.length + (nth e.A 12).L.length
theorem ndN_nn (e : PV) : 0 ≤ ndN e := by unfold ndN; omega
def mkN5 (k : Int) (l v x m : Nat) : PV := .agg [.int .i64 k, .int .i64 (k + 1), .int .i64 (k + 2), .int .i64 (k + 3), .int .i64 (k + 4), .bool (mod3 (k + 5)), .list (markR (k + 6) l), .int .i64 (k + 6 + 2 * l), .int .i64 (k + 6 + 2 * l + 1), .int .i64 (k + 6 + 2 * l + 2),
  .list (markI (k + 6 + 2 * l + 3) v), .list (markI (k + 6 + 2 * l + 3 + v) x), .list (markI (k + 6 + 2 * l + 3 + v + x) m)]
def mkN (k : Int) (e : PV) : PV := mkN5 k (nth e.A 6).L.length (nth e.A 10).L.length (nth e.A 11).L.length (nth e.A 12).L.length
theorem ndN_mk (k : Int) (e : PV) : ndN (mkN k e) = ndN e := by simp [ndN, mkN, mkN5, nth_zero, nth_succ, pv_A, pv_L, markR_len, markI_len]
def c_markNodeS : FSpec := ⟨[(.mt, .list (.agg [.int .i64, .int .i64, .int .i64, .int .i64, .int .i64, .bool, .list (.agg [.int .i64, .str]), .int .i64, .int .i64, .int .i64, .list (.int .i64), .list (.int .i64), .list (.int .i64)])), (.rd, .int .i64)], [.int .i64], true, fun ps => 0 ≤ (nth ps 1).I ∧ sumF ndN (nth ps 1).I (nth ps 0).L ≤ 1073741823, fun ps => [.int .i64 (sumF ndN (nth ps 1).I (nth ps 0).L)], fun ps => [.list (markF ndN mkN (nth ps 1).I (nth ps 0).L)]⟩
set_option maxHeartbeats 4000000 in
theorem k_markNodeS : FnOk Tryz.prog 85 c_markNodeS := by
  refine fn_mk [0, 1, 4, 5] [.tmp 4] (env_cons (cs := []) k_markIntS (env_cons (cs := []) k_markEntryS (env_nil (tyTab_ok [])))) mixed Tryz.func85 rfl (by decide) rfl (by decide) rfl ?_
  intro ps hT hpre W hW
  simp only [c_markNodeS, TyA, Ty, Tys] at hT hpre
  obtain ⟨_, _, rfl, ⟨es, rfl, hes, tes⟩, _, _, rfl, ⟨k, rfl, hk⟩, rfl⟩ := hT
  simp only [nth_zero, nth_succ, pv_I, pv_L] at hpre
  refine hW.vc [] _ _ ?_
  simp [-List.getD_eq_getElem?_getD, c_markNodeS, c_markEntryS, c_markIntS]
  refine hW.loopS _ _ _ [.ar 0 (.agg [.int .i64, .int .i64, .int .i64, .int .i64, .int .i64, .bool, .list (.agg [.int .i64, .str]), .int .i64, .int .i64, .int .i64, .list (.int .i64), .list (.int .i64), .list (.int .i64)]), .sl 1 .dp (.int .i64), .sl 5 .dp (.int .i64)] (fun ys => ∃ i : Nat, ys = [.list (markF ndN mkN k (es.take i) ++ es.drop i), .int .i64 (sumF ndN k (es.take i)), .int .i64 i] ∧ i ≤ es.length) (fun ys => es.length - (nth ys 2).I.toNat) ?_ ?_
  · simp [-List.getD_eq_getElem?_getD, c_markNodeS, c_markEntryS, c_markIntS]
    exact ⟨0, ⟨by simp [markF], by simp [sumF], rfl⟩, by omega⟩
  · rintro ys ⟨i, rfl, h2⟩
    by_cases h3 : i < es.length
    · have h4 : i < (markF ndN mkN k (es.take i) ++ es.drop i).length := by rw [List.length_append, markF_len, List.length_take, List.length_drop]; omega
      have h5 : (markF ndN mkN k (es.take i) ++ es.drop i).length = es.length := by rw [List.length_append, markF_len, List.length_take, List.length_drop]; omega
      obtain ⟨L, hL⟩ : ∃ L, L = markF ndN mkN k (es.take i) ++ es.drop i := ⟨_, rfl⟩
      obtain ⟨K, hK⟩ : ∃ K, K = sumF ndN k (es.take i) := ⟨_, rfl⟩
      rw [← hL] at h4 h5
      rw [← hL, ← hK]
      have h6 : ∀ x, nth (L.set i x) i = x := fun x => nth_set h4
      refine hW.vc [] _ _ ?_
      simp [-List.getD_eq_getElem?_getD, c_markNodeS, c_markEntryS, c_markIntS, h6]
      have g1 := sumF_take ndN_nn es k h3
      have g2 := sumF_ge ndN_nn (es.take i) k
      rw [← hK] at g1 g2
      have g3 : nth L i = nth es i := by rw [hL, drop_nth h3]; simp [nth, List.getElem?_append_right, markF_len, List.length_take, Nat.min_eq_left h2]
      have g4 : ndN (nth es i) = 9 + 2 * (nth (nth es i).A 6).L.length + (nth (nth es i).A 10).L.length + (nth (nth es i).A 11).L.length + (nth (nth es i).A 12).L.length := rfl
      have g5 : mkN K (nth es i) = mkN5 K (nth (nth es i).A 6).L.length (nth (nth es i).A 10).L.length (nth (nth es i).A 11).L.length (nth (nth es i).A 12).L.length := rfl
      rw [g3]
      obtain ⟨l, hl⟩ : ∃ l, l = (nth (nth es i).A 6).L.length := ⟨_, rfl⟩
      obtain ⟨v, hv⟩ : ∃ v, v = (nth (nth es i).A 10).L.length := ⟨_, rfl⟩
      obtain ⟨x, hx⟩ : ∃ x, x = (nth (nth es i).A 11).L.length := ⟨_, rfl⟩
      obtain ⟨m, hm⟩ : ∃ m, m = (nth (nth es i).A 12).L.length := ⟨_, rfl⟩
      rw [← hl, ← hv, ← hx, ← hm] at g4 g5 ⊢
      have e1 : IntKind.i64.wrap (K + 1) = K + 1 := wrap64 (by omega)
      have e2 : IntKind.i64.wrap (K + 1 + 1) = K + 2 := by rw [wrap64 (by omega)]; omega
      have e3 : IntKind.i64.wrap (K + 2 + 1) = K + 3 := by rw [wrap64 (by omega)]; omega
      have e4 : IntKind.i64.wrap (K + 3 + 1) = K + 4 := by rw [wrap64 (by omega)]; omega
      have e5 : IntKind.i64.wrap (K + 4 + 1) = K + 5 := by rw [wrap64 (by omega)]; omega
      have e6 : IntKind.i64.wrap (K + 5 + 1) = K + 6 := by rw [wrap64 (by omega)]; omega
      have e7 : IntKind.i64.wrap (K + 6 + 2 * (l : Int) + 1) = K + 6 + 2 * l + 1 := wrap64 (by omega)
      have e8 : IntKind.i64.wrap (K + 6 + 2 * (l : Int) + 1 + 1) = K + 6 + 2 * l + 2 := by rw [wrap64 (by omega)]; omega
      have e9 : IntKind.i64.wrap (K + 6 + 2 * (l : Int) + 2 + 1) = K + 6 + 2 * l + 3 := by rw [wrap64 (by omega)]; omega
      have e10 : IntKind.i64.wrap ((i : Int) + 1) = (i : Int) + 1 := wrap64 (by rw [LIM] at hes; omega)
      simp only [e1, e2, e3, e4, e5, e6, e7, e8, e9, e10]
      refine fun _ => ⟨fun _ => ⟨h4, fun _ => ⟨⟨by omega, by omega⟩, h4, fun _ => ⟨⟨by omega, by omega⟩, h4, fun _ => ⟨⟨by omega, by omega⟩, h4, fun _ => ⟨⟨by omega, by omega⟩, ⟨i + 1, ⟨?_, ?_, by omega⟩, by omega⟩, by omega⟩⟩⟩⟩⟩, fun h => by omega⟩
      · rw [take_nth h3, markF_snoc, hL]
        exact mark_step (by rw [markF_len, List.length_take]; omega) h3 (by rw [← hK, g5]; rfl)
      · rw [take_nth h3, sumF_snoc, ← hK, g4]; omega
    · have : i = es.length := by omega
      subst this
      have h4 : markF ndN mkN k (es.take es.length) ++ es.drop es.length = markF ndN mkN k es := by simp
      have h5 : (markF ndN mkN k es).length = es.length := markF_len es k
      rw [h4, List.take_length]
      obtain ⟨L, hL⟩ : ∃ L, L = markF ndN mkN k es := ⟨_, rfl⟩
      rw [← hL] at h5 ⊢
      have h6 : ∀ x, nth (L.set es.length x) es.length = PV.d := fun x => by simp [nth, h5]
      refine hW.vc [] _ _ ?_
      simp [-List.getD_eq_getElem?_getD, c_markNodeS, c_markEntryS, c_markIntS, h6, h5]
      exact fun _ => hL
def heldN1 (k : Int) (e : PV) : Bool := (nth e.A 0).I == k && (nth e.A 1).I == k + 1 && (nth e.A 2).I == k + 2 && (nth e.A 3).I == k + 3 && (nth e.A 4).I == k + 4 && (nth e.A 5).B == mod3 (k + 5) && heldGo heldR1 2 (k + 6) (nth e.A 6).L == k + 6 + 2 * (nth e.A 6).L.length &&
  (nth e.A 7).I == k + 6 + 2 * (nth e.A 6).L.length && (nth e.A 8).I == k + 6 + 2 * (nth e.A 6).L.length + 1 && (nth e.A 9).I == k + 6 + 2 * (nth e.A 6).L.length + 2 && heldGo heldI1 1 (k + 6 + 2 * (nth e.A 6).L.length + 3) (nth e.A 10).L == k + 6 + 2 * (nth e.A 6).L.length + 3 + (nth e.A 10).L.length &&
  heldGo heldI1 1 (k + 6 + 2 * (nth e.A 6).L.length + 3 + (nth e.A 10).L.length) (nth e.A 11).L == k + 6 + 2 * (nth e.A 6).L.length + 3 + (nth e.A 10).L.length + (nth e.A 11).L.length &&
  heldGo heldI1 1 (k + 6 + 2 * (nth e.A 6).L.length + 3 + (nth e.A 10).L.length + (nth e.A 11).L.length) (nth e.A 12).L == k + 6 + 2 * (nth e.A 6).L.length + 3 + (nth e.A 10).L.length + (nth e.A 11).L.length + (nth e.A 12).L.length
theorem heldN1_mk (k : Int) (e : PV) : heldN1 k (mkN k e) = true := by
  simp [heldN1, mkN, mkN5, nth_zero, nth_succ, pv_A, pv_I, pv_L, pv_B, heldR_mark, heldI_mark, markR_len, markI_len]
theorem heldNs_mark (es : List PV) (k : Int) : heldF ndN heldN1 k (markF ndN mkN k es) = sumF ndN k es := heldF_mark ndN_mk heldN1_mk es k
def c_heldNodeS : FSpec := ⟨[(.rd, .list (.agg [.int .i64, .int .i64, .int .i64, .int .i64, .int .i64, .bool, .list (.agg [.int .i64, .str]), .int .i64, .int .i64, .int .i64, .list (.int .i64), .list (.int .i64), .list (.int .i64)])), (.rd, .int .i64)], [.int .i64], true, fun ps => 0 ≤ (nth ps 1).I ∧ sumF ndN (nth ps 1).I (nth ps 0).L ≤ 1073741823, fun ps => [.int .i64 (heldF ndN heldN1 (nth ps 1).I (nth ps 0).L)], fun _ => []⟩
set_option maxHeartbeats 4000000 in
theorem k_heldNodeS : FnOk Tryz.prog 90 c_heldNodeS := by
  refine fn_mk [0, 1, 4, 5] [.tmp 4] (env_cons (cs := []) k_heldIntS (env_cons (cs := []) k_heldEntryS (env_nil (tyTab_ok [])))) mixed Tryz.func90 rfl (by decide) rfl (by decide) rfl ?_
  intro ps hT hpre W hW
  simp only [c_heldNodeS, TyA, Ty, Tys] at hT hpre
  obtain ⟨_, _, rfl, ⟨es, rfl, hes, tes⟩, _, _, rfl, ⟨k, rfl, hk⟩, rfl⟩ := hT
  simp only [nth_zero, nth_succ, pv_I, pv_L] at hpre
  refine hW.vc [] _ _ ?_
  simp [-List.getD_eq_getElem?_getD, c_heldNodeS, c_heldEntryS, c_heldIntS]
  refine hW.loopS _ _ _ [.sl 1 .dp (.int .i64), .sl 5 .dp (.int .i64)] (fun ys => ∃ i : Nat, ys = [.int .i64 (sumF ndN k (es.take i)), .int .i64 i] ∧ i ≤ es.length ∧ heldF ndN heldN1 k es = heldF ndN heldN1 (sumF ndN k (es.take i)) (es.drop i)) (fun ys => es.length - (nth ys 1).I.toNat) ?_ ?_
  · simp [-List.getD_eq_getElem?_getD, c_heldNodeS, c_heldEntryS, c_heldIntS]
    exact ⟨0, ⟨by simp [sumF], rfl⟩, by omega, by simp [sumF]⟩
  · rintro ys ⟨i, rfl, h2, h3⟩
    refine hW.vc [] _ _ ?_
    simp [-List.getD_eq_getElem?_getD, c_heldNodeS, c_heldEntryS, c_heldIntS]
    by_cases h4 : i < es.length
    · have g1 := sumF_take ndN_nn es k h4
      have g2 := sumF_ge ndN_nn (es.take i) k
      obtain ⟨K, hK⟩ : ∃ K, K = sumF ndN k (es.take i) := ⟨_, rfl⟩
      rw [← hK] at g1 g2 h3 ⊢
      have g4 : ndN (nth es i) = 9 + 2 * (nth (nth es i).A 6).L.length + (nth (nth es i).A 10).L.length + (nth (nth es i).A 11).L.length + (nth (nth es i).A 12).L.length := rfl
      rw [drop_nth h4, heldF] at h3
      have no : heldN1 K (nth es i) = false → heldF ndN heldN1 k es = -1 := fun q => by rw [h3, if_neg (by rw [q]; simp)]
      obtain ⟨l, hl⟩ : ∃ l, l = (nth (nth es i).A 6).L.length := ⟨_, rfl⟩
      have a6 := held_le (f := heldR1) (d := 2) (by omega) (es := (nth (nth es i).A 6).L) (k := K + 6) (by omega)
      have a10 := held_le (f := heldI1) (d := 1) (by omega) (es := (nth (nth es i).A 10).L) (k := K + 6 + 2 * l + 3) (by omega)
      have a11 := held_le (f := heldI1) (d := 1) (by omega) (es := (nth (nth es i).A 11).L) (k := K + 6 + 2 * l + 3 + (nth (nth es i).A 10).L.length) (by omega)
      have a12 := held_le (f := heldI1) (d := 1) (by omega) (es := (nth (nth es i).A 12).L) (k := K + 6 + 2 * l + 3 + (nth (nth es i).A 10).L.length + (nth (nth es i).A 11).L.length) (by omega)
      have e1 : IntKind.i64.wrap (K + 1) = K + 1 := wrap64 (by omega)
      have e2 : IntKind.i64.wrap (K + 1 + 1) = K + 2 := by rw [wrap64 (by omega)]; omega
      have e3 : IntKind.i64.wrap (K + 2 + 1) = K + 3 := by rw [wrap64 (by omega)]; omega
      have e4 : IntKind.i64.wrap (K + 3 + 1) = K + 4 := by rw [wrap64 (by omega)]; omega
      have e5 : IntKind.i64.wrap (K + 4 + 1) = K + 5 := by rw [wrap64 (by omega)]; omega
      have e6 : IntKind.i64.wrap (K + 5 + 1) = K + 6 := by rw [wrap64 (by omega)]; omega
      have e7 : IntKind.i64.wrap (K + 6 + 2 * (l : Int) + 1) = K + 6 + 2 * l + 1 := wrap64 (by omega)
      have e8 : IntKind.i64.wrap (K + 6 + 2 * (l : Int) + 1 + 1) = K + 6 + 2 * l + 2 := by rw [wrap64 (by omega)]; omega
      have e9 : IntKind.i64.wrap (K + 6 + 2 * (l : Int) + 2 + 1) = K + 6 + 2 * l + 3 := by rw [wrap64 (by omega)]; omega
      have e10 : IntKind.i64.wrap ((i : Int) + 1) = (i : Int) + 1 := wrap64 (by rw [LIM] at hes; omega)
      have c6 : 0 ≤ K + 6 ∧ K + 6 + 2 * ((nth (nth es i).A 6).L.length : Int) ≤ 1073741823 := ⟨by omega, by omega⟩
      have P6 : 0 ≤ K + 6 + 2 * ((nth (nth es i).A 6).L.length : Int) := by omega
      have c10 : 0 ≤ K + 6 + 2 * l + 3 ∧ K + 6 + 2 * l + 3 + ((nth (nth es i).A 10).L.length : Int) ≤ 1073741823 := ⟨by omega, by omega⟩
      have P10 : 0 ≤ K + 6 + 2 * l + 3 + ((nth (nth es i).A 10).L.length : Int) := by omega
      have c11 : 0 ≤ K + 6 + 2 * l + 3 + (nth (nth es i).A 10).L.length ∧ K + 6 + 2 * l + 3 + (nth (nth es i).A 10).L.length + ((nth (nth es i).A 11).L.length : Int) ≤ 1073741823 := ⟨by omega, by omega⟩
      have P11 : 0 ≤ K + 6 + 2 * l + 3 + (nth (nth es i).A 10).L.length + ((nth (nth es i).A 11).L.length : Int) := by omega
      have c12 : 0 ≤ K + 6 + 2 * l + 3 + (nth (nth es i).A 10).L.length + (nth (nth es i).A 11).L.length ∧ K + 6 + 2 * l + 3 + (nth (nth es i).A 10).L.length + (nth (nth es i).A 11).L.length + ((nth (nth es i).A 12).L.length : Int) ≤ 1073741823 := ⟨by omega, by omega⟩
      have P12 : 0 ≤ K + 6 + 2 * l + 3 + (nth (nth es i).A 10).L.length + (nth (nth es i).A 11).L.length + ((nth (nth es i).A 12).L.length : Int) := by omega
      have cF : K + 6 + 2 * l + 3 + (nth (nth es i).A 10).L.length + (nth (nth es i).A 11).L.length + ((nth (nth es i).A 12).L.length : Int) = K + ndN (nth es i) := by omega
      have cI : es.length - ((i : Int) + 1).toNat < es.length - i := by omega
      have hl' : ((nth (nth es i).A 6).L.length : Int) = l := by rw [hl]
      simp only [e1, e2, e3, e4, e5, e6, e10]
      refine fun _ => ⟨fun _ => ?_, fun h => absurd h (Nat.not_le.2 h4)⟩
      refine ⟨h4, fun _ => ⟨fun q => (no (by simp [heldN1, q])).symm, fun q0 => ?_⟩⟩
      refine ⟨h4, fun _ => ⟨fun q => (no (by simp [heldN1, q])).symm, fun q1 => ?_⟩⟩
      refine ⟨h4, fun _ => ⟨fun q => (no (by simp [heldN1, q])).symm, fun q2 => ?_⟩⟩
      refine ⟨h4, fun _ => ⟨fun q => (no (by simp [heldN1, q])).symm, fun q3 => ?_⟩⟩
      refine ⟨h4, fun _ => ⟨fun q => (no (by simp [heldN1, q])).symm, fun q4 => ?_⟩⟩
      refine ⟨h4, fun _ => ⟨fun q => (no (by simp [heldN1, mod3, q])).symm, fun q5 => ?_⟩⟩
      refine ⟨h4, fun _ => ⟨c6, fun q => (no ?_).symm, fun q6 => ?_⟩⟩
      · have : ¬ heldGo heldR1 2 (K + 6) (nth (nth es i).A 6).L = K + 6 + 2 * (nth (nth es i).A 6).L.length := fun e => absurd q (by rw [e]; exact Int.not_lt.2 P6)
        simp [heldN1, this]
      have b6 : heldGo heldR1 2 (K + 6) (nth (nth es i).A 6).L = K + 6 + 2 * l := by
        have := a6.resolve_left (fun e => absurd q6 (by rw [e]; decide))
        rwa [hl'] at this
      rw [b6]
      simp only [e7, e8, e9]
      refine ⟨h4, fun _ => ⟨fun q => (no (by simp [heldN1, ← hl, q])).symm, fun q7 => ?_⟩⟩
      refine ⟨h4, fun _ => ⟨fun q => (no (by simp [heldN1, ← hl, q])).symm, fun q8 => ?_⟩⟩
      refine ⟨h4, fun _ => ⟨fun q => (no (by simp [heldN1, ← hl, q])).symm, fun q9 => ?_⟩⟩
      refine ⟨h4, fun _ => ⟨c10, fun q => (no ?_).symm, fun q10 => ?_⟩⟩
      · have : ¬ heldGo heldI1 1 (K + 6 + 2 * l + 3) (nth (nth es i).A 10).L = K + 6 + 2 * l + 3 + (nth (nth es i).A 10).L.length := fun e => absurd q (by rw [e]; exact Int.not_lt.2 P10)
        simp [heldN1, ← hl, this]
      have b10 : heldGo heldI1 1 (K + 6 + 2 * l + 3) (nth (nth es i).A 10).L = K + 6 + 2 * l + 3 + (nth (nth es i).A 10).L.length := by
        have := a10.resolve_left (fun e => absurd q10 (by rw [e]; decide))
        rwa [Int.one_mul] at this
      rw [b10]
      refine ⟨h4, fun _ => ⟨c11, fun q => (no ?_).symm, fun q11 => ?_⟩⟩
      · have : ¬ heldGo heldI1 1 (K + 6 + 2 * l + 3 + (nth (nth es i).A 10).L.length) (nth (nth es i).A 11).L = K + 6 + 2 * l + 3 + (nth (nth es i).A 10).L.length + (nth (nth es i).A 11).L.length := fun e => absurd q (by rw [e]; exact Int.not_lt.2 P11)
        simp [heldN1, ← hl, this]
      have b11 : heldGo heldI1 1 (K + 6 + 2 * l + 3 + (nth (nth es i).A 10).L.length) (nth (nth es i).A 11).L = K + 6 + 2 * l + 3 + (nth (nth es i).A 10).L.length + (nth (nth es i).A 11).L.length := by
        have := a11.resolve_left (fun e => absurd q11 (by rw [e]; decide))
        rwa [Int.one_mul] at this
      rw [b11]
      refine ⟨h4, fun _ => ⟨c12, fun q => (no ?_).symm, fun q12 => ?_⟩⟩
      · have : ¬ heldGo heldI1 1 (K + 6 + 2 * l + 3 + (nth (nth es i).A 10).L.length + (nth (nth es i).A 11).L.length) (nth (nth es i).A 12).L = K + 6 + 2 * l + 3 + (nth (nth es i).A 10).L.length + (nth (nth es i).A 11).L.length + (nth (nth es i).A 12).L.length := fun e => absurd q (by rw [e]; exact Int.not_lt.2 P12)
        simp [heldN1, ← hl, this]
      have b12 : heldGo heldI1 1 (K + 6 + 2 * l + 3 + (nth (nth es i).A 10).L.length + (nth (nth es i).A 11).L.length) (nth (nth es i).A 12).L = K + 6 + 2 * l + 3 + (nth (nth es i).A 10).L.length + (nth (nth es i).A 11).L.length + (nth (nth es i).A 12).L.length := by
        have := a12.resolve_left (fun e => absurd q12 (by rw [e]; decide))
        rwa [Int.one_mul] at this
      rw [b12]
      have a3 : heldN1 K (nth es i) = true := by simp [heldN1, mod3, ← hl, q0, q1, q2, q3, q4, q5, b6, q7, q8, q9, b10, b11, b12]
      rw [if_pos a3] at h3
      refine ⟨⟨i + 1, ⟨?_, rfl⟩, h4, ?_⟩, cI⟩
      · rw [take_nth h4, sumF_snoc, ← hK]; exact cF
      · rw [take_nth h4, sumF_snoc, ← hK, h3]
    · have : i = es.length := by omega
      subst this
      refine fun _ => ⟨fun h => absurd h (Nat.lt_irrefl _), fun _ => ?_⟩
      rw [h3, List.drop_length]; rfl
end Go.Proofs.YtkofjkjcbljkdaaGreatDoor
end

section
namespace Go.Proofs.YtkofjkjcbljkdaaGreatDoor
variable [LaidG]
set_option maxRecDepth 100000
set_option linter.unusedSimpArgs false
def stN (e : PV) : Int := 2
theorem stN_nn (e : PV) : 0 ≤ stN e := by unfold stN; decide
def mkSt (k : Int) (e : PV) : PV := .agg [.str (mtext k), .int .i64 (k + 1)]
def c_markStoreS : FSpec := ⟨[(.mt, .list (.agg [.str, .int .i64])), (.rd, .int .i64)], [.int .i64], true, fun ps => 0 ≤ (nth ps 1).I ∧ sumF stN (nth ps 1).I (nth ps 0).L ≤ 1073741823, fun ps => [.int .i64 (sumF stN (nth ps 1).I (nth ps 0).L)], fun ps => [.list (markF stN mkSt (nth ps 1).I (nth ps 0).L)]⟩
theorem k_markStoreS : FnOk Tryz.prog 86 c_markStoreS := by
  refine fn_mk [0, 1, 4, 5] [.tmp 4] (env_cons (cs := []) k_markText (env_nil (tyTab_ok []))) mixed Tryz.func86 rfl (by decide) rfl (by decide) rfl ?_
  intro ps hT hpre W hW
  simp only [c_markStoreS, TyA, Ty, Tys] at hT hpre
  obtain ⟨_, _, rfl, ⟨es, rfl, hes, tes⟩, _, _, rfl, ⟨k, rfl, hk⟩, rfl⟩ := hT
  simp only [nth_zero, nth_succ, pv_I, pv_L] at hpre
  refine hW.vc [] _ _ ?_
  simp [-List.getD_eq_getElem?_getD, c_markStoreS, c_markText]
  refine hW.loopS _ _ _ [.ar 0 (.agg [.str, .int .i64]), .sl 1 .dp (.int .i64), .sl 5 .dp (.int .i64)] (fun ys => ∃ i : Nat, ys = [.list (markF stN mkSt k (es.take i) ++ es.drop i), .int .i64 (sumF stN k (es.take i)), .int .i64 i] ∧ i ≤ es.length) (fun ys => es.length - (nth ys 2).I.toNat) ?_ ?_
  · simp [-List.getD_eq_getElem?_getD, c_markStoreS, c_markText]
    exact ⟨0, ⟨by simp [markF], by simp [sumF], rfl⟩, by omega⟩
  · rintro ys ⟨i, rfl, h2⟩
    by_cases h3 : i < es.length
    · have h4 : i < (markF stN mkSt k (es.take i) ++ es.drop i).length := by rw [List.length_append, markF_len, List.length_take, List.length_drop]; omega
      have h5 : (markF stN mkSt k (es.take i) ++ es.drop i).length = es.length := by rw [List.length_append, markF_len, List.length_take, List.length_drop]; omega
      obtain ⟨L, hL⟩ : ∃ L, L = markF stN mkSt k (es.take i) ++ es.drop i := ⟨_, rfl⟩
      obtain ⟨K, hK⟩ : ∃ K, K = sumF stN k (es.take i) := ⟨_, rfl⟩
      rw [← hL] at h4 h5
      rw [← hL, ← hK]
      have h6 : ∀ x, nth (L.set i x) i = x := fun x => nth_set h4
      refine hW.vc [] _ _ ?_
      simp [-List.getD_eq_getElem?_getD, c_markStoreS, c_markText, h6]
      have g1 := sumF_take stN_nn es k h3
      have g2 := sumF_ge stN_nn (es.take i) k
      rw [← hK] at g1 g2
      have g4 : stN (nth es i) = 2 := rfl
      have e1 : IntKind.i64.wrap (K + 1) = K + 1 := wrap64 (by omega)
      have e2 : IntKind.i64.wrap (K + 1 + 1) = K + 2 := by rw [wrap64 (by omega)]; omega
      have e10 : IntKind.i64.wrap ((i : Int) + 1) = (i : Int) + 1 := wrap64 (by rw [LIM] at hes; omega)
      simp only [e1, e2, e10]
      refine fun _ => ⟨fun _ => ⟨by omega, h4, ⟨i + 1, ⟨?_, ?_, rfl⟩, h3⟩, by omega⟩, fun h => by omega⟩
      · rw [take_nth h3, markF_snoc, hL]
        exact mark_step (by rw [markF_len, List.length_take]; omega) h3 (by rw [← hK]; rfl)
      · rw [take_nth h3, sumF_snoc, ← hK, g4]
    · have : i = es.length := by omega
      subst this
      have h4 : markF stN mkSt k (es.take es.length) ++ es.drop es.length = markF stN mkSt k es := by simp
      have h5 : (markF stN mkSt k es).length = es.length := markF_len es k
      rw [h4, List.take_length]
      obtain ⟨L, hL⟩ : ∃ L, L = markF stN mkSt k es := ⟨_, rfl⟩
      rw [← hL] at h5 ⊢
      have h6 : ∀ x, nth (L.set es.length x) es.length = PV.d := fun x => by simp [nth, h5]
      refine hW.vc [] _ _ ?_
      simp [-List.getD_eq_getElem?_getD, c_markStoreS, c_markText, h6, h5]
      exact fun _ => hL
def heldSt1 (k : Int) (e : PV) : Bool := (nth e.A 0).S == mtext k && (nth e.A 1).I == k + 1
theorem heldSt1_mk (k : Int) (e : PV) : heldSt1 k (mkSt k e) = true := by simp [heldSt1, mkSt, nth_zero, nth_succ, pv_A, pv_I, pv_S]
theorem heldSts_mark (es : List PV) (k : Int) : heldF stN heldSt1 k (markF stN mkSt k es) = sumF stN k es := heldF_mark (m := mkSt) (fun _ _ => rfl) heldSt1_mk es k
def c_heldStoreS : FSpec := ⟨[(.rd, .list (.agg [.str, .int .i64])), (.rd, .int .i64)], [.int .i64], true, fun ps => 0 ≤ (nth ps 1).I ∧ sumF stN (nth ps 1).I (nth ps 0).L ≤ 1073741823, fun ps => [.int .i64 (heldF stN heldSt1 (nth ps 1).I (nth ps 0).L)], fun _ => []⟩
theorem k_heldStoreS : FnOk Tryz.prog 91 c_heldStoreS := by
  refine fn_mk [0, 1, 4, 5] [.tmp 4] (env_cons (cs := []) k_markText (env_nil (tyTab_ok []))) mixed Tryz.func91 rfl (by decide) rfl (by decide) rfl ?_
  intro ps hT hpre W hW
  simp only [c_heldStoreS, TyA, Ty, Tys] at hT hpre
  obtain ⟨_, _, rfl, ⟨es, rfl, hes, tes⟩, _, _, rfl, ⟨k, rfl, hk⟩, rfl⟩ := hT
  simp only [nth_zero, nth_succ, pv_I, pv_L] at hpre
  refine hW.vc [(4, [], .take 0 <| .take 1 <| .take 2 <| .take 3 <| .take 4 <| .take 5 <| .alt 6 (.take 7 <| .done) .stop)] _ _ ?_
  simp [-List.getD_eq_getElem?_getD, c_heldStoreS, c_markText]
  refine hW.loopS _ _ _ [.sl 1 .dp (.int .i64), .sl 5 .dp (.int .i64)] (fun ys => ∃ i : Nat, ys = [.int .i64 (sumF stN k (es.take i)), .int .i64 i] ∧ i ≤ es.length ∧ heldF stN heldSt1 k es = heldF stN heldSt1 (sumF stN k (es.take i)) (es.drop i)) (fun ys => es.length - (nth ys 1).I.toNat) ?_ ?_
  · simp [-List.getD_eq_getElem?_getD, c_heldStoreS, c_markText]
    exact ⟨0, ⟨by simp [sumF], rfl⟩, by omega, by simp [sumF]⟩
  · rintro ys ⟨i, rfl, h2, h3⟩
    refine hW.vc [(4, [], .take 0 <| .take 1 <| .take 2 <| .take 3 <| .take 4 <| .take 5 <| .alt 6 (.take 7 <| .done) .stop)] _ _ ?_
    simp [-List.getD_eq_getElem?_getD, c_heldStoreS, c_markText]
    by_cases h4 : i < es.length
    · have g1 := sumF_take stN_nn es k h4
      have g2 := sumF_ge stN_nn (es.take i) k
      obtain ⟨K, hK⟩ : ∃ K, K = sumF stN k (es.take i) := ⟨_, rfl⟩
      rw [← hK] at g1 g2 h3 ⊢
      have g4 : stN (nth es i) = 2 := rfl
      rw [drop_nth h4, heldF] at h3
      have no : heldSt1 K (nth es i) = false → heldF stN heldSt1 k es = -1 := fun q => by rw [h3, if_neg (by rw [q]; simp)]
      have e1 : IntKind.i64.wrap (K + 1) = K + 1 := wrap64 (by omega)
      have e2 : IntKind.i64.wrap (K + 1 + 1) = K + 2 := by rw [wrap64 (by omega)]; omega
      have e10 : IntKind.i64.wrap ((i : Int) + 1) = (i : Int) + 1 := wrap64 (by rw [LIM] at hes; omega)
      simp only [e1, e2, e10]
      have cI : es.length - ((i : Int) + 1).toNat < es.length - i := by omega
      refine fun _ => ⟨fun _ => ⟨by decide +kernel, h4, fun _ => ⟨by omega, fun q => (no (by simp [heldSt1, q])).symm, fun q0 => ⟨h4, fun _ => ⟨fun q => (no (by simp [heldSt1, q])).symm, fun q1 => ⟨⟨i + 1, ⟨?_, rfl⟩, h4, ?_⟩, cI⟩⟩⟩⟩⟩, fun h => by omega⟩
      · rw [take_nth h4, sumF_snoc, ← hK, g4]
      · have a3 : heldSt1 K (nth es i) = true := by simp [heldSt1, q0, q1]
        rw [if_pos a3] at h3
        rw [take_nth h4, sumF_snoc, ← hK, h3]
    · have : i = es.length := by omega
      subst this
      refine fun _ => ⟨fun h => absurd h (Nat.lt_irrefl _), fun _ => ?_⟩
      rw [h3, List.drop_length]; rfl
def clN (e : PV) : Int := 6 + (nth e.A 6).L.length
theorem clN_nn (e : PV) : 0 ≤ clN e := by unfold clN; omega
def mkC1 (k : Int) (n : Nat) : PV := .agg [.int .i64 k, .str (mtext (k + 1)), .str (mtext (k + 2)), .int .i64 (k + 3), .int .i64 (k + 4), .int .i64 (k + 5), .list (markS (k + 6) n)]
def mkC (k : Int) (e : PV) : PV := mkC1 k (nth e.A 6).L.length
theorem clN_mk (k : Int) (e : PV) : clN (mkC k e) = clN e := by simp [clN, mkC, mkC1, nth_zero, nth_succ, pv_A, pv_L, markS_len]
def c_markClientS : FSpec := ⟨[(.mt, .list (.agg [.int .i64, .str, .str, .int .i64, .int .i64, .int .i64, .list .str])), (.rd, .int .i64)], [.int .i64], true, fun ps => 0 ≤ (nth ps 1).I ∧ sumF clN (nth ps 1).I (nth ps 0).L ≤ 1073741823, fun ps => [.int .i64 (sumF clN (nth ps 1).I (nth ps 0).L)], fun ps => [.list (markF clN mkC (nth ps 1).I (nth ps 0).L)]⟩
set_option maxHeartbeats 4000000 in
theorem k_markClientS : FnOk Tryz.prog 50 c_markClientS := by
  refine fn_mk [0, 1, 4, 5] [.tmp 4] (env_cons (cs := []) k_markStringS (env_cons (cs := []) k_markText (env_nil (tyTab_ok [])))) mixed Tryz.func50 rfl (by decide) rfl (by decide) rfl ?_
  intro ps hT hpre W hW
  simp only [c_markClientS, TyA, Ty, Tys] at hT hpre
  obtain ⟨_, _, rfl, ⟨es, rfl, hes, tes⟩, _, _, rfl, ⟨k, rfl, hk⟩, rfl⟩ := hT
  simp only [nth_zero, nth_succ, pv_I, pv_L] at hpre
  refine hW.vc [] _ _ ?_
  simp [-List.getD_eq_getElem?_getD, c_markClientS, c_markText, c_markStringS]
  refine hW.loopS _ _ _ [.ar 0 (.agg [.int .i64, .str, .str, .int .i64, .int .i64, .int .i64, .list .str]), .sl 1 .dp (.int .i64), .sl 5 .dp (.int .i64)] (fun ys => ∃ i : Nat, ys = [.list (markF clN mkC k (es.take i) ++ es.drop i), .int .i64 (sumF clN k (es.take i)), .int .i64 i] ∧ i ≤ es.length) (fun ys => es.length - (nth ys 2).I.toNat) ?_ ?_
  · simp [-List.getD_eq_getElem?_getD, c_markClientS, c_markText, c_markStringS]
    exact ⟨0, ⟨by simp [markF], by simp [sumF], rfl⟩, by omega⟩
  · rintro ys ⟨i, rfl, h2⟩
    by_cases h3 : i < es.length
    · have h4 : i < (markF clN mkC k (es.take i) ++ es.drop i).length := by rw [List.length_append, markF_len, List.length_take, List.length_drop]; omega
      have h5 : (markF clN mkC k (es.take i) ++ es.drop i).length = es.length := by rw [List.length_append, markF_len, List.length_take, List.length_drop]; omega
      obtain ⟨L, hL⟩ : ∃ L, L = markF clN mkC k (es.take i) ++ es.drop i := ⟨_, rfl⟩
      obtain ⟨K, hK⟩ : ∃ K, K = sumF clN k (es.take i) := ⟨_, rfl⟩
      rw [← hL] at h4 h5
      rw [← hL, ← hK]
      have h6 : ∀ x, nth (L.set i x) i = x := fun x => nth_set h4
      refine hW.vc [] _ _ ?_
      simp [-List.getD_eq_getElem?_getD, c_markClientS, c_markText, c_markStringS, h6]
      have g1 := sumF_take clN_nn es k h3
      have g2 := sumF_ge clN_nn (es.take i) k
      rw [← hK] at g1 g2
      have g3 : nth L i = nth es i := by rw [hL, drop_nth h3]; simp [nth, List.getElem?_append_right, markF_len, List.length_take, Nat.min_eq_left h2]
      have g4 : clN (nth es i) = 6 + (nth (nth es i).A 6).L.length := rfl
      have g5 : mkC K (nth es i) = mkC1 K (nth (nth es i).A 6).L.length := rfl
      rw [g3]
      have e1 : IntKind.i64.wrap (K + 1) = K + 1 := wrap64 (by omega)
      have e2 : IntKind.i64.wrap (K + 1 + 1) = K + 2 := by rw [wrap64 (by omega)]; omega
      have e3 : IntKind.i64.wrap (K + 2 + 1) = K + 3 := by rw [wrap64 (by omega)]; omega
      have e4 : IntKind.i64.wrap (K + 3 + 1) = K + 4 := by rw [wrap64 (by omega)]; omega
      have e5 : IntKind.i64.wrap (K + 4 + 1) = K + 5 := by rw [wrap64 (by omega)]; omega
      have e6 : IntKind.i64.wrap (K + 5 + 1) = K + 6 := by rw [wrap64 (by omega)]; omega
      have e10 : IntKind.i64.wrap ((i : Int) + 1) = (i : Int) + 1 := wrap64 (by rw [LIM] at hes; omega)
      simp only [e1, e2, e3, e4, e5, e6, e10]
      refine fun _ => ⟨fun _ => ⟨h4, by omega, h4, by omega, h4, fun _ => ⟨⟨by omega, by omega⟩, ⟨i + 1, ⟨?_, ?_, rfl⟩, h3⟩, by omega⟩⟩, fun h => by omega⟩
      · rw [take_nth h3, markF_snoc, hL]
        exact mark_step (by rw [markF_len, List.length_take]; omega) h3 (by rw [← hK, g5]; rfl)
      · rw [take_nth h3, sumF_snoc, ← hK, g4]; omega
    · have : i = es.length := by omega
      subst this
      have h4 : markF clN mkC k (es.take es.length) ++ es.drop es.length = markF clN mkC k es := by simp
      have h5 : (markF clN mkC k es).length = es.length := markF_len es k
      rw [h4, List.take_length]
      obtain ⟨L, hL⟩ : ∃ L, L = markF clN mkC k es := ⟨_, rfl⟩
      rw [← hL] at h5 ⊢
      have h6 : ∀ x, nth (L.set es.length x) es.length = PV.d := fun x => by simp [nth, h5]
      refine hW.vc [] _ _ ?_
      simp [-List.getD_eq_getElem?_getD, c_markClientS, c_markText, c_markStringS, h6, h5]
      exact fun _ => hL
def heldC1 (k : Int) (e : PV) : Bool := (nth e.A 0).I == k && (nth e.A 1).S == mtext (k + 1) && (nth e.A 2).S == mtext (k + 2) && (nth e.A 3).I == k + 3 && (nth e.A 4).I == k + 4 && (nth e.A 5).I == k + 5 && heldGo heldS1 1 (k + 6) (nth e.A 6).L == k + 6 + (nth e.A 6).L.length
theorem heldC1_mk (k : Int) (e : PV) : heldC1 k (mkC k e) = true := by simp [heldC1, mkC, mkC1, nth_zero, nth_succ, pv_A, pv_I, pv_S, pv_L, heldS_mark, markS_len]
theorem heldCs_mark (es : List PV) (k : Int) : heldF clN heldC1 k (markF clN mkC k es) = sumF clN k es := heldF_mark clN_mk heldC1_mk es k
def c_heldClientS : FSpec := ⟨[(.rd, .list (.agg [.int .i64, .str, .str, .int .i64, .int .i64, .int .i64, .list .str])), (.rd, .int .i64)], [.int .i64], true, fun ps => 0 ≤ (nth ps 1).I ∧ sumF clN (nth ps 1).I (nth ps 0).L ≤ 1073741823, fun ps => [.int .i64 (heldF clN heldC1 (nth ps 1).I (nth ps 0).L)], fun _ => []⟩
set_option maxHeartbeats 4000000 in
theorem k_heldClientS : FnOk Tryz.prog 52 c_heldClientS := by
  refine fn_mk [0, 1, 4, 5] [.tmp 4] (env_cons (cs := []) k_heldStringS (env_cons (cs := []) k_markText (env_nil (tyTab_ok [])))) mixed Tryz.func52 rfl (by decide) rfl (by decide) rfl ?_
  intro ps hT hpre W hW
  simp only [c_heldClientS, TyA, Ty, Tys] at hT hpre
  obtain ⟨_, _, rfl, ⟨es, rfl, hes, tes⟩, _, _, rfl, ⟨k, rfl, hk⟩, rfl⟩ := hT
  simp only [nth_zero, nth_succ, pv_I, pv_L] at hpre
  refine hW.vc [(7, [], .take 0 <| .take 1 <| .take 2 <| .take 3 <| .take 4 <| .take 5 <| .alt 6 (.take 7 <| .done) .stop), (10, [], .take 0 <| .take 1 <| .take 2 <| .take 3 <| .take 4 <| .take 5 <| .alt 6 (.take 7 <| .done) .stop)] _ _ ?_
  simp [-List.getD_eq_getElem?_getD, c_heldClientS, c_markText, c_heldStringS]
  refine hW.loopS _ _ _ [.sl 1 .dp (.int .i64), .sl 5 .dp (.int .i64)] (fun ys => ∃ i : Nat, ys = [.int .i64 (sumF clN k (es.take i)), .int .i64 i] ∧ i ≤ es.length ∧ heldF clN heldC1 k es = heldF clN heldC1 (sumF clN k (es.take i)) (es.drop i)) (fun ys => es.length - (nth ys 1).I.toNat) ?_ ?_
  · simp [-List.getD_eq_getElem?_getD, c_heldClientS, c_markText, c_heldStringS]
    exact ⟨0, ⟨by simp [sumF], rfl⟩, by omega, by simp [sumF]⟩
  · rintro ys ⟨i, rfl, h2, h3⟩
    refine hW.vc [(7, [], .take 0 <| .take 1 <| .take 2 <| .take 3 <| .take 4 <| .take 5 <| .alt 6 (.take 7 <| .done) .stop), (10, [], .take 0 <| .take 1 <| .take 2 <| .take 3 <| .take 4 <| .take 5 <| .alt 6 (.take 7 <| .done) .stop)] _ _ ?_
    simp [-List.getD_eq_getElem?_getD, c_heldClientS, c_markText, c_heldStringS]
    by_cases h4 : i < es.length
    · have g1 := sumF_take clN_nn es k h4
      have g2 := sumF_ge clN_nn (es.take i) k
      obtain ⟨K, hK⟩ : ∃ K, K = sumF clN k (es.take i) := ⟨_, rfl⟩
      rw [← hK] at g1 g2 h3 ⊢
      have g4 : clN (nth es i) = 6 + (nth (nth es i).A 6).L.length := rfl
      rw [drop_nth h4, heldF] at h3
      have no : heldC1 K (nth es i) = false → heldF clN heldC1 k es = -1 := fun q => by rw [h3, if_neg (by rw [q]; simp)]
      have a6 := held_le (f := heldS1) (d := 1) (by omega) (es := (nth (nth es i).A 6).L) (k := K + 6) (by omega)
      have c6 : 0 ≤ K + 6 ∧ K + 6 + ((nth (nth es i).A 6).L.length : Int) ≤ 1073741824 := ⟨by omega, by omega⟩
      have P6 : 0 ≤ K + 6 + ((nth (nth es i).A 6).L.length : Int) := by omega
      have cF : K + 6 + ((nth (nth es i).A 6).L.length : Int) = K + clN (nth es i) := by omega
      have cI : es.length - ((i : Int) + 1).toNat < es.length - i := by omega
      have m1 : K + 1 ≤ 1073741824 := by omega
      have m2 : K + 2 ≤ 1073741824 := by omega
      have e1 : IntKind.i64.wrap (K + 1) = K + 1 := wrap64 (by omega)
      have e2 : IntKind.i64.wrap (K + 1 + 1) = K + 2 := by rw [wrap64 (by omega)]; omega
      have e3 : IntKind.i64.wrap (K + 2 + 1) = K + 3 := by rw [wrap64 (by omega)]; omega
      have e4 : IntKind.i64.wrap (K + 3 + 1) = K + 4 := by rw [wrap64 (by omega)]; omega
      have e5 : IntKind.i64.wrap (K + 4 + 1) = K + 5 := by rw [wrap64 (by omega)]; omega
      have e6 : IntKind.i64.wrap (K + 5 + 1) = K + 6 := by rw [wrap64 (by omega)]; omega
      have e10 : IntKind.i64.wrap ((i : Int) + 1) = (i : Int) + 1 := wrap64 (by rw [LIM] at hes; omega)
      simp only [e1, e2, e3, e4, e5, e6, e10]
      refine fun _ => ⟨fun _ => ?_, fun h => absurd h (Nat.not_le.2 h4)⟩
      refine ⟨h4, fun _ => ⟨fun q => (no (by simp [heldC1, q])).symm, fun q0 => ⟨by decide +kernel, ?_⟩⟩⟩
      refine ⟨h4, fun _ => ⟨m1, fun q => (no (by simp [heldC1, q])).symm, fun q1 => ⟨by decide +kernel, ?_⟩⟩⟩
      refine ⟨h4, fun _ => ⟨m2, fun q => (no (by simp [heldC1, q])).symm, fun q2 => ?_⟩⟩
      refine ⟨h4, fun _ => ⟨fun q => (no (by simp [heldC1, q])).symm, fun q3 => ?_⟩⟩
      refine ⟨h4, fun _ => ⟨fun q => (no (by simp [heldC1, q])).symm, fun q4 => ?_⟩⟩
      refine ⟨h4, fun _ => ⟨fun q => (no (by simp [heldC1, q])).symm, fun q5 => ?_⟩⟩
      refine ⟨h4, fun _ => ⟨c6, fun q => (no ?_).symm, fun q6 => ?_⟩⟩
      · have : ¬ heldGo heldS1 1 (K + 6) (nth (nth es i).A 6).L = K + 6 + (nth (nth es i).A 6).L.length := fun e => absurd q (by rw [e]; exact Int.not_lt.2 P6)
        simp [heldC1, this]
      have b6 : heldGo heldS1 1 (K + 6) (nth (nth es i).A 6).L = K + 6 + (nth (nth es i).A 6).L.length := by
        have := a6.resolve_left (fun e => absurd q6 (by rw [e]; decide))
        rwa [Int.one_mul] at this
      rw [b6]
      have a3 : heldC1 K (nth es i) = true := by simp [heldC1, q0, q1, q2, q3, q4, q5, b6]
      rw [if_pos a3] at h3
      refine ⟨⟨i + 1, ⟨?_, rfl⟩, h4, ?_⟩, cI⟩
      · rw [take_nth h4, sumF_snoc, ← hK]; exact cF
      · rw [take_nth h4, sumF_snoc, ← hK, h3]
    · have : i = es.length := by omega
      subst this
      refine fun _ => ⟨fun h => absurd h (Nat.lt_irrefl _), fun _ => ?_⟩
      rw [h3, List.drop_length]; rfl
def eqCl2 (a b : PV) : Bool := eqCli a.A b.A
theorem eqCls_refl (es : List PV) : eqL eqCl2 es es = true := eqL_refl fun _ => eqCli_refl _
def c_eqClientS : FSpec := ⟨[(.rd, .list (.agg [.int .i64, .str, .str, .int .i64, .int .i64, .int .i64, .list .str])), (.rd, .list (.agg [.int .i64, .str, .str, .int .i64, .int .i64, .int .i64, .list .str]))], [.bool], true, fun _ => True, fun ps => [.bool (eqL eqCl2 (nth ps 0).L (nth ps 1).L)], fun _ => []⟩
theorem k_eqClientS : FnOk Tryz.prog 48 c_eqClientS := by
  refine fn_mk [0, 1, 4, 5] [.tmp 4] (env_cons (cs := []) k_eqClient (env_nil (tyTab_ok []))) mixed Tryz.func48 rfl (by decide) rfl (by decide) rfl ?_
  intro ps hT hpre W hW
  simp only [c_eqClientS, TyA, Ty, Tys] at hT hpre
  obtain ⟨_, _, rfl, ⟨es, rfl, hes, tes⟩, _, _, rfl, ⟨es2, rfl, hes2, tes2⟩, rfl⟩ := hT
  refine hW.vc [(6, [], .take 0 <| .take 1 <| .take 2 <| .take 3 <| .take 4 <| .take 5 <| .take 6 <| .take 7 <| .alt 8 (.take 9 <| .done) .stop)] _ _ ?_
  simp [-List.getD_eq_getElem?_getD, c_eqClientS, c_eqClient]
  refine fun h1 h2 => ⟨fun h3 => eqL_len (by omega), fun h3 => ?_⟩
  refine hW.loopS _ _ _ [.sl 5 .dp (.int .i64)] (fun ys => ∃ i : Nat, ys = [.int .i64 i] ∧ i ≤ es.length ∧ eqL eqCl2 es es2 = eqL eqCl2 (es.drop i) (es2.drop i)) (fun ys => es.length - (nth ys 0).I.toNat) ?_ ?_
  · simp [-List.getD_eq_getElem?_getD, c_eqClientS, c_eqClient]
    exact ⟨0, rfl, by simp, by simp⟩
  · rintro ys ⟨i, rfl, h4, h5⟩
    refine hW.vc [(6, [], .take 0 <| .take 1 <| .take 2 <| .take 3 <| .take 4 <| .take 5 <| .take 6 <| .take 7 <| .alt 8 (.take 9 <| .done) .stop)] _ _ ?_
    simp [-List.getD_eq_getElem?_getD, c_eqClientS, c_eqClient]
    refine fun _ => ⟨fun h6 => ⟨by decide +kernel, h6, ?_⟩, fun h6 => ?_⟩
    · intros
      refine ⟨by omega, ?_⟩
      intros
      rw [drop_nth h6, drop_nth (by omega : i < es2.length), eqL] at h5
      rw [wrap64 (n := (i : Int) + 1) (by omega)]
      refine ⟨fun h7 => ?_, fun h7 => ⟨⟨i + 1, by omega, by omega, ?_⟩, by omega⟩⟩
      · have h8 : eqCl2 (nth es i) (nth es2 i) = false := h7
        rw [h5, h8]; rfl
      · have h8 : eqCl2 (nth es i) (nth es2 i) = true := h7
        rw [h5, h8, Bool.true_and]
    · rw [h5, List.drop_eq_nil_of_le h6, List.drop_eq_nil_of_le (by omega)]; rfl
def eqWor (a b : List PV) : Bool := (nth a 0).I == (nth b 0).I && (nth a 1).I == (nth b 1).I && eqClu [nth a 2, nth a 3, nth a 4, nth a 5] [nth b 2, nth b 3, nth b 4, nth b 5] && eqL eqCl2 (nth a 6).L (nth b 6).L
theorem eqWor_refl (a : List PV) : eqWor a a = true := by simp [eqWor, eqClu_refl, eqCls_refl]
def c_eqWorld : FSpec := ⟨[(.rd, .agg [.int .i64, .int .i64, .list (.agg [.int .i64, .int .i64, .int .i64, .int .i64, .int .i64, .bool, .list (.agg [.int .i64, .str]), .int .i64, .int .i64, .int .i64, .list (.int .i64), .list (.int .i64), .list (.int .i64)]), .list (.agg [.str, .int .i64]), .list (.agg [.int .i64, .int .i64, .int .i64, .int .i64, .int .i64, .int .i64, .int .i64, .bool, .list (.agg [.int .i64, .str])]), .list .str, .list (.agg [.int .i64, .str, .str, .int .i64, .int .i64, .int .i64, .list .str])]), (.rd, .agg [.int .i64, .int .i64, .list (.agg [.int .i64, .int .i64, .int .i64, .int .i64, .int .i64, .bool, .list (.agg [.int .i64, .str]), .int .i64, .int .i64, .int .i64, .list (.int .i64), .list (.int .i64), .list (.int .i64)]), .list (.agg [.str, .int .i64]), .list (.agg [.int .i64, .int .i64, .int .i64, .int .i64, .int .i64, .int .i64, .int .i64, .bool, .list (.agg [.int .i64, .str])]), .list .str, .list (.agg [.int .i64, .str, .str, .int .i64, .int .i64, .int .i64, .list .str])])], [.bool], true, fun _ => True, fun ps => [.bool (eqWor (nth ps 0).A (nth ps 1).A)], fun _ => []⟩
theorem k_eqWorld : FnOk Tryz.prog 20 c_eqWorld := by
  refine fn_mk [0, 1, 2, 3, 4] [.tmp 4] (env_cons (cs := []) k_eqClientS (env_cons (cs := []) k_eqCluster (env_nil (tyTab_ok [])))) mixed Tryz.func20 rfl (by decide) rfl (by decide) rfl ?_
  intro ps hT hpre W hW
  simp only [c_eqWorld, TyA, Ty, Tys] at hT hpre
  obtain ⟨_, _, rfl, ⟨_, rfl, _, _, rfl, ⟨ww, rfl, hww⟩, _, _, rfl, ⟨wh, rfl, hwh⟩, _, _, rfl, ⟨ns, rfl, hns, tns⟩, _, _, rfl, ⟨ss, rfl, hss, tss⟩, _, _, rfl, ⟨ws, rfl, hws, tws⟩, _, _, rfl, ⟨ds, rfl, hds, tds⟩, _, _, rfl, ⟨cs, rfl, hcs, tcs⟩, rfl⟩, _, _, rfl, ⟨_, rfl, _, _, rfl, ⟨ww', rfl, hww'⟩, _, _, rfl, ⟨wh', rfl, hwh'⟩, _, _, rfl, ⟨ns', rfl, hns', tns'⟩, _, _, rfl, ⟨ss', rfl, hss', tss'⟩, _, _, rfl, ⟨ws', rfl, hws', tws'⟩, _, _, rfl, ⟨ds', rfl, hds', tds'⟩, _, _, rfl, ⟨cs', rfl, hcs', tcs'⟩, rfl⟩, rfl⟩ := hT
  refine hW.vc [] _ _ ?_
  simp [-List.getD_eq_getElem?_getD, c_eqWorld, c_eqCluster, c_eqClientS]
  simp only [eqWor, nth_zero, nth_succ, pv_I, pv_L]
  exact ⟨fun q1 => by simp [q1], fun q1 => ⟨fun q2 => by simp [q2], fun q2 => ⟨fun q3 => by simp [q3], fun q3 => ⟨fun q4 => by simp [q4], fun q4 => by simp [q1, q2, q3, q4]⟩⟩⟩⟩
end Go.Proofs.YtkofjkjcbljkdaaGreatDoor
end

section
namespace Go.Proofs.YtkofjkjcbljkdaaGreatDoor
variable [LaidG]
set_option maxRecDepth 100000
set_option linter.unusedSimpArgs false
def cN1 (k : Int) (v : List PV) : Int := sumF ndN k (nth v 0).L
def cN2 (k : Int) (v : List PV) : Int := sumF stN (cN1 k v) (nth v 1).L
def cN3 (k : Int) (v : List PV) : Int := sumMs (cN2 k v) (nth v 2).L
def cN4 (k : Int) (v : List PV) : Int := cN3 k v + (nth v 3).L.length
theorem cN4_ge (k : Int) (v : List PV) : k ≤ cN4 k v := by
  have a1 := sumF_ge ndN_nn (nth v 0).L k
  have a2 := sumF_ge stN_nn (nth v 1).L (cN1 k v)
  have a3 := sumMs_ge (nth v 2).L (cN2 k v)
  unfold cN4 cN3
  unfold cN2 at *
  unfold cN1 at *
  omega
def c_markCluster : FSpec := ⟨[(.mt, .agg [.list (.agg [.int .i64, .int .i64, .int .i64, .int .i64, .int .i64, .bool, .list (.agg [.int .i64, .str]), .int .i64, .int .i64, .int .i64, .list (.int .i64), .list (.int .i64), .list (.int .i64)]), .list (.agg [.str, .int .i64]), .list (.agg [.int .i64, .int .i64, .int .i64, .int .i64, .int .i64, .int .i64, .int .i64, .bool, .list (.agg [.int .i64, .str])]), .list .str]), (.rd, .int .i64)], [.int .i64], true, fun ps => 0 ≤ (nth ps 1).I ∧ cN4 (nth ps 1).I (nth ps 0).A ≤ 1073741823, fun ps => [.int .i64 (cN4 (nth ps 1).I (nth ps 0).A)],
  fun ps => [.agg [.list (markF ndN mkN (nth ps 1).I (nth (nth ps 0).A 0).L), .list (markF stN mkSt (cN1 (nth ps 1).I (nth ps 0).A) (nth (nth ps 0).A 1).L), .list (markMs (cN2 (nth ps 1).I (nth ps 0).A) (nth (nth ps 0).A 2).L), .list (markS (cN3 (nth ps 1).I (nth ps 0).A) (nth (nth ps 0).A 3).L.length)]]⟩
theorem k_markCluster : FnOk Tryz.prog 49 c_markCluster := by
  refine fn_mk [0, 1, 2, 4] [.tmp 4] (env_cons (cs := []) k_markStringS (env_cons (cs := []) k_markMessageS (env_cons (cs := []) k_markStoreS (env_cons (cs := []) k_markNodeS (env_nil (tyTab_ok [])))))) mixed Tryz.func49 rfl (by decide) rfl (by decide) rfl ?_
  intro ps hT hpre W hW
  simp only [c_markCluster, TyA, Ty, Tys] at hT hpre
  obtain ⟨_, _, rfl, ⟨_, rfl, _, _, rfl, ⟨ns, rfl, hns, tns⟩, _, _, rfl, ⟨ss, rfl, hss, tss⟩, _, _, rfl, ⟨ws, rfl, hws, tws⟩, _, _, rfl, ⟨ds, rfl, hds, tds⟩, rfl⟩, _, _, rfl, ⟨k, rfl, hk⟩, rfl⟩ := hT
  simp only [nth_zero, nth_succ, pv_I, pv_L, pv_A, cN4, cN3, cN2, cN1] at hpre
  have a1 := sumF_ge ndN_nn ns k
  have a2 := sumF_ge stN_nn ss (sumF ndN k ns)
  have a3 := sumMs_ge ws (sumF stN (sumF ndN k ns) ss)
  refine hW.vc [] _ _ ?_
  simp [-List.getD_eq_getElem?_getD, c_markCluster, c_markNodeS, c_markStoreS, c_markMessageS, c_markStringS, cN4, cN3, cN2, cN1]
  exact ⟨⟨by omega, by omega⟩, ⟨by omega, by omega⟩, ⟨by omega, by omega⟩, by omega, by omega⟩
def heldQ (k : Int) (ns ss ws ds : List PV) : Int := if heldF ndN heldN1 k ns < 0 then -1 else if heldF stN heldSt1 (heldF ndN heldN1 k ns) ss < 0 then -1 else if heldMs (heldF stN heldSt1 (heldF ndN heldN1 k ns) ss) ws < 0 then -1 else heldGo heldS1 1 (heldMs (heldF stN heldSt1 (heldF ndN heldN1 k ns) ss) ws) ds
theorem heldF_le {d : PV → Int} {f : Int → PV → Bool} (hd : ∀ e, 0 ≤ d e) : ∀ {es : List PV} {k : Int}, 0 ≤ k → heldF d f k es = -1 ∨ heldF d f k es = sumF d k es
  | [], k, hk => .inr rfl
  | e :: es, k, hk => by
    simp only [heldF, sumF]
    split
    · exact heldF_le hd (es := es) (k := k + d e) (by have := hd e; omega)
    · exact .inl rfl
theorem heldMs_le : ∀ {es : List PV} {k : Int}, 0 ≤ k → heldMs k es = -1 ∨ heldMs k es = sumMs k es
  | [], k, hk => .inr rfl
  | e :: es, k, hk => by
    simp only [heldMs, sumMs]
    split
    · exact heldMs_le (es := es) (k := k + msN e) (by unfold msN; omega)
    · exact .inl rfl
def c_heldCluster : FSpec := ⟨[(.rd, .agg [.list (.agg [.int .i64, .int .i64, .int .i64, .int .i64, .int .i64, .bool, .list (.agg [.int .i64, .str]), .int .i64, .int .i64, .int .i64, .list (.int .i64), .list (.int .i64), .list (.int .i64)]), .list (.agg [.str, .int .i64]), .list (.agg [.int .i64, .int .i64, .int .i64, .int .i64, .int .i64, .int .i64, .int .i64, .bool, .list (.agg [.int .i64, .str])]), .list .str]), (.rd, .int .i64)], [.int .i64], true, fun ps => 0 ≤ (nth ps 1).I ∧ cN4 (nth ps 1).I (nth ps 0).A ≤ 1073741823, fun ps => [.int .i64 (heldQ (nth ps 1).I (nth (nth ps 0).A 0).L (nth (nth ps 0).A 1).L (nth (nth ps 0).A 2).L (nth (nth ps 0).A 3).L)], fun _ => []⟩
theorem k_heldCluster : FnOk Tryz.prog 51 c_heldCluster := by
  refine fn_mk [0, 1, 2, 4] [.tmp 4] (env_cons (cs := []) k_heldStringS (env_cons (cs := []) k_heldMessageS (env_cons (cs := []) k_heldStoreS (env_cons (cs := []) k_heldNodeS (env_nil (tyTab_ok [])))))) mixed Tryz.func51 rfl (by decide) rfl (by decide) rfl ?_
  intro ps hT hpre W hW
  simp only [c_heldCluster, TyA, Ty, Tys] at hT hpre
  obtain ⟨_, _, rfl, ⟨_, rfl, _, _, rfl, ⟨ns, rfl, hns, tns⟩, _, _, rfl, ⟨ss, rfl, hss, tss⟩, _, _, rfl, ⟨ws, rfl, hws, tws⟩, _, _, rfl, ⟨ds, rfl, hds, tds⟩, rfl⟩, _, _, rfl, ⟨k, rfl, hk⟩, rfl⟩ := hT
  simp only [nth_zero, nth_succ, pv_I, pv_L, pv_A, cN4, cN3, cN2, cN1] at hpre
  have a1 := sumF_ge ndN_nn ns k
  have a2 := sumF_ge stN_nn ss (sumF ndN k ns)
  have a3 := sumMs_ge ws (sumF stN (sumF ndN k ns) ss)
  have b1 := heldF_le (f := heldN1) ndN_nn (es := ns) hpre.1
  refine hW.vc [] _ _ ?_
  simp [-List.getD_eq_getElem?_getD, c_heldCluster, c_heldNodeS, c_heldStoreS, c_heldMessageS, c_heldStringS]
  refine ⟨⟨hpre.1, by omega⟩, fun q => by rw [heldQ, if_pos q], fun q1 => ?_⟩
  have c1 : heldF ndN heldN1 k ns = sumF ndN k ns := b1.resolve_left (fun e => absurd q1 (by rw [e]; decide))
  have b2 := heldF_le (f := heldSt1) stN_nn (es := ss) (k := sumF ndN k ns) (by omega)
  have n1 := Int.not_lt.2 q1
  refine ⟨⟨q1, by rw [c1]; omega⟩, fun q => by rw [heldQ, if_neg n1, if_pos q], fun q2 => ?_⟩
  have c2 : heldF stN heldSt1 (heldF ndN heldN1 k ns) ss = sumF stN (sumF ndN k ns) ss := by
    rw [c1] at q2 ⊢
    exact b2.resolve_left (fun e => absurd q2 (by rw [e]; decide))
  have b3 := heldMs_le (es := ws) (k := sumF stN (sumF ndN k ns) ss) (by omega)
  have n2 := Int.not_lt.2 q2
  refine ⟨⟨q2, by rw [c2]; omega⟩, fun q => by rw [heldQ, if_neg n1, if_neg n2, if_pos q], fun q3 => ?_⟩
  have c3 : heldMs (heldF stN heldSt1 (heldF ndN heldN1 k ns) ss) ws = sumMs (sumF stN (sumF ndN k ns) ss) ws := by
    rw [c2] at q3 ⊢
    exact b3.resolve_left (fun e => absurd q3 (by rw [e]; decide))
  have n3 := Int.not_lt.2 q3
  refine ⟨⟨q3, by rw [c3]; omega⟩, fun q => ?_, fun _ => by rw [heldQ, if_neg n1, if_neg n2, if_neg n3]⟩
  rw [heldQ, if_neg n1, if_neg n2, if_neg n3]
  exact (held_neg (f := heldS1) (d := 1) (by omega) q3 q).symm
def c_markWorld : FSpec := ⟨[(.mt, .agg [.int .i64, .int .i64, .list (.agg [.int .i64, .int .i64, .int .i64, .int .i64, .int .i64, .bool, .list (.agg [.int .i64, .str]), .int .i64, .int .i64, .int .i64, .list (.int .i64), .list (.int .i64), .list (.int .i64)]), .list (.agg [.str, .int .i64]), .list (.agg [.int .i64, .int .i64, .int .i64, .int .i64, .int .i64, .int .i64, .int .i64, .bool, .list (.agg [.int .i64, .str])]), .list .str, .list (.agg [.int .i64, .str, .str, .int .i64, .int .i64, .int .i64, .list .str])]), (.rd, .int .i64)], [.int .i64], true, fun ps => 0 ≤ (nth ps 1).I ∧ sumF clN (cN4 (nth ps 1).I [nth (nth ps 0).A 2, nth (nth ps 0).A 3, nth (nth ps 0).A 4, nth (nth ps 0).A 5]) (nth (nth ps 0).A 6).L ≤ 1073741823, fun ps => [.int .i64 (sumF clN (cN4 (nth ps 1).I [nth (nth ps 0).A 2, nth (nth ps 0).A 3, nth (nth ps 0).A 4, nth (nth ps 0).A 5]) (nth (nth ps 0).A 6).L)],
  fun ps => [.agg [nth (nth ps 0).A 0, nth (nth ps 0).A 1, .list (markF ndN mkN (nth ps 1).I (nth (nth ps 0).A 2).L), .list (markF stN mkSt (cN1 (nth ps 1).I [nth (nth ps 0).A 2, nth (nth ps 0).A 3, nth (nth ps 0).A 4, nth (nth ps 0).A 5]) (nth (nth ps 0).A 3).L), .list (markMs (cN2 (nth ps 1).I [nth (nth ps 0).A 2, nth (nth ps 0).A 3, nth (nth ps 0).A 4, nth (nth ps 0).A 5]) (nth (nth ps 0).A 4).L),
    .list (markS (cN3 (nth ps 1).I [nth (nth ps 0).A 2, nth (nth ps 0).A 3, nth (nth ps 0).A 4, nth (nth ps 0).A 5]) (nth (nth ps 0).A 5).L.length), .list (markF clN mkC (cN4 (nth ps 1).I [nth (nth ps 0).A 2, nth (nth ps 0).A 3, nth (nth ps 0).A 4, nth (nth ps 0).A 5]) (nth (nth ps 0).A 6).L)]]⟩
theorem k_markWorld : FnOk Tryz.prog 21 c_markWorld := by
  refine fn_mk [0, 1, 2, 4] [.tmp 4] (env_cons (cs := []) k_markClientS (env_cons (cs := []) k_markCluster (env_nil (tyTab_ok [])))) mixed Tryz.func21 rfl (by decide) rfl (by decide) rfl ?_
  intro ps hT hpre W hW
  simp only [c_markWorld, TyA, Ty, Tys] at hT hpre
  obtain ⟨_, _, rfl, ⟨_, rfl, _, _, rfl, ⟨ww, rfl, hww⟩, _, _, rfl, ⟨wh, rfl, hwh⟩, _, _, rfl, ⟨ns, rfl, hns, tns⟩, _, _, rfl, ⟨ss, rfl, hss, tss⟩, _, _, rfl, ⟨ws, rfl, hws, tws⟩, _, _, rfl, ⟨ds, rfl, hds, tds⟩, _, _, rfl, ⟨cs, rfl, hcs, tcs⟩, rfl⟩, _, _, rfl, ⟨k, rfl, hk⟩, rfl⟩ := hT
  simp only [nth_zero, nth_succ, pv_I, pv_L, pv_A] at hpre
  have a1 := sumF_ge clN_nn cs (cN4 k [.list ns, .list ss, .list ws, .list ds])
  refine hW.vc [] _ _ ?_
  simp [-List.getD_eq_getElem?_getD, c_markWorld, c_markCluster, c_markClientS]
  have b1 : k ≤ cN4 k [.list ns, .list ss, .list ws, .list ds] := cN4_ge k _
  exact ⟨⟨hpre.1, by omega⟩, by omega, hpre.2⟩
def heldW0 (q : Int) (cs : List PV) : Int := if q < 0 then -1 else heldF clN heldC1 q cs
def heldW (k : Int) (v : List PV) : Int := heldW0 (heldQ k (nth v 2).L (nth v 3).L (nth v 4).L (nth v 5).L) (nth v 6).L
theorem heldQ_le {k : Int} {ns ss ws ds : List PV} (h : 0 ≤ k) : heldQ k ns ss ws ds = -1 ∨ heldQ k ns ss ws ds = cN4 k [.list ns, .list ss, .list ws, .list ds] := by
  have b1 := heldF_le (f := heldN1) ndN_nn (es := ns) h
  have a1 := sumF_ge ndN_nn ns k
  have a2 := sumF_ge stN_nn ss (sumF ndN k ns)
  have a3 := sumMs_ge ws (sumF stN (sumF ndN k ns) ss)
  unfold heldQ
  split
  · exact .inl rfl
  · rename_i q1
    rcases b1 with c1 | c1
    · omega
    rw [c1]
    have b2 := heldF_le (f := heldSt1) stN_nn (es := ss) (k := sumF ndN k ns) (by omega)
    split
    · exact .inl rfl
    · rename_i q2
      rcases b2 with c2 | c2
      · omega
      rw [c2]
      have b3 := heldMs_le (es := ws) (k := sumF stN (sumF ndN k ns) ss) (by omega)
      split
      · exact .inl rfl
      · rename_i q3
        rcases b3 with c3 | c3
        · omega
        rw [c3]
        have b4 := held_le (f := heldS1) (d := 1) (by omega) (es := ds) (k := sumMs (sumF stN (sumF ndN k ns) ss) ws) (by omega)
        rw [Int.one_mul] at b4
        exact b4
theorem heldQ_mark {k : Int} {ns ss ws ds : List PV} (h : 0 ≤ k) : heldQ k (markF ndN mkN k ns) (markF stN mkSt (sumF ndN k ns) ss) (markMs (sumF stN (sumF ndN k ns) ss) ws) (markS (sumMs (sumF stN (sumF ndN k ns) ss) ws) ds.length) = cN4 k [.list ns, .list ss, .list ws, .list ds] := by
  have a1 := sumF_ge ndN_nn ns k
  have a2 := sumF_ge stN_nn ss (sumF ndN k ns)
  have a3 := sumMs_ge ws (sumF stN (sumF ndN k ns) ss)
  rw [heldQ, heldNs_mark, heldSts_mark, heldMs_mark, heldS_mark, if_neg (by omega), if_neg (by omega), if_neg (by omega)]
  rfl
def c_heldWorld : FSpec := ⟨[(.rd, .agg [.int .i64, .int .i64, .list (.agg [.int .i64, .int .i64, .int .i64, .int .i64, .int .i64, .bool, .list (.agg [.int .i64, .str]), .int .i64, .int .i64, .int .i64, .list (.int .i64), .list (.int .i64), .list (.int .i64)]), .list (.agg [.str, .int .i64]), .list (.agg [.int .i64, .int .i64, .int .i64, .int .i64, .int .i64, .int .i64, .int .i64, .bool, .list (.agg [.int .i64, .str])]), .list .str, .list (.agg [.int .i64, .str, .str, .int .i64, .int .i64, .int .i64, .list .str])]), (.rd, .int .i64)], [.int .i64], true, fun ps => 0 ≤ (nth ps 1).I ∧ sumF clN (cN4 (nth ps 1).I [nth (nth ps 0).A 2, nth (nth ps 0).A 3, nth (nth ps 0).A 4, nth (nth ps 0).A 5]) (nth (nth ps 0).A 6).L ≤ 1073741823, fun ps => [.int .i64 (heldW (nth ps 1).I (nth ps 0).A)], fun _ => []⟩
theorem k_heldWorld : FnOk Tryz.prog 22 c_heldWorld := by
  refine fn_mk [0, 1, 2, 4] [.tmp 4] (env_cons (cs := []) k_heldClientS (env_cons (cs := []) k_heldCluster (env_nil (tyTab_ok [])))) mixed Tryz.func22 rfl (by decide) rfl (by decide) rfl ?_
  intro ps hT hpre W hW
  simp only [c_heldWorld, TyA, Ty, Tys] at hT hpre
  obtain ⟨_, _, rfl, ⟨_, rfl, _, _, rfl, ⟨ww, rfl, hww⟩, _, _, rfl, ⟨wh, rfl, hwh⟩, _, _, rfl, ⟨ns, rfl, hns, tns⟩, _, _, rfl, ⟨ss, rfl, hss, tss⟩, _, _, rfl, ⟨ws, rfl, hws, tws⟩, _, _, rfl, ⟨ds, rfl, hds, tds⟩, _, _, rfl, ⟨cs, rfl, hcs, tcs⟩, rfl⟩, _, _, rfl, ⟨k, rfl, hk⟩, rfl⟩ := hT
  simp only [nth_zero, nth_succ, pv_I, pv_L, pv_A] at hpre
  have a1 := sumF_ge clN_nn cs (cN4 k [.list ns, .list ss, .list ws, .list ds])
  have a2 := cN4_ge k [.list ns, .list ss, .list ws, .list ds]
  have b1 := heldQ_le (ns := ns) (ss := ss) (ws := ws) (ds := ds) hpre.1
  refine hW.vc [] _ _ ?_
  simp [-List.getD_eq_getElem?_getD, c_heldWorld, c_heldCluster, c_heldClientS]
  simp only [heldW, nth_zero, nth_succ, pv_L]
  unfold heldW0
  refine ⟨⟨hpre.1, by omega⟩, fun q => by rw [if_pos q], fun q1 => ?_⟩
  have c1 : heldQ k ns ss ws ds = cN4 k [.list ns, .list ss, .list ws, .list ds] := b1.resolve_left (fun e => absurd q1 (by rw [e]; decide))
  have n1 := Int.not_lt.2 q1
  refine ⟨⟨q1, by rw [c1]; exact hpre.2⟩, fun q => ?_, fun _ => by rw [if_neg n1]⟩
  rw [if_neg n1]
  have b2 := heldF_le (f := heldC1) clN_nn (es := cs) q1
  rcases b2 with b2 | b2
  · exact b2.symm
  · have := sumF_ge clN_nn cs (heldQ k ns ss ws ds)
    rw [b2] at q
    omega
end Go.Proofs.YtkofjkjcbljkdaaGreatDoor
end

section
namespace Go.Proofs.YtkofjkjcbljkdaaGreatDoor
variable [LaidG]
set_option maxRecDepth 100000
set_option linter.unusedSimpArgs false
def newND (id nodes t v : Int) (log : List PV) : ND := ⟨id, nodes, t, v, 0, true, log, 0, 0, 5 + id, [], List.replicate nodes.toNat (.int .i64 1), List.replicate nodes.toNat (.int .i64 0)⟩
def c_l08New : FSpec := ⟨[(.rd, .int .i64), (.rd, .int .i64), (.rd, .agg [.int .i64, .int .i64, .list (.agg [.int .i64, .str])])], [.agg [.int .i64, .int .i64, .int .i64, .int .i64, .int .i64, .bool, .list (.agg [.int .i64, .str]), .int .i64, .int .i64, .int .i64, .list (.int .i64), .list (.int .i64), .list (.int .i64)]], true, fun ps => 0 ≤ (nth ps 0).I ∧ (nth ps 0).I ≤ 1000 ∧ 1 ≤ (nth ps 1).I ∧ (nth ps 1).I ≤ 5 ∧ (nth (nth ps 2).A 2).L.length ≤ 1048576,
  fun ps => [(newND (nth ps 0).I (nth ps 1).I (nth (nth ps 2).A 0).I (nth (nth ps 2).A 1).I (nth (nth ps 2).A 2).L).pv], fun _ => []⟩
set_option maxHeartbeats 0 in
theorem k_l08New : FnOk Tryz.prog 130 c_l08New := by
  refine fn_mk [0, 1, 2, 5, 6, 7, 8] [.cell 6 140] (env_nil (tyTab_ok [])) mixed Tryz.func130 rfl (by decide) rfl (by decide) rfl ?_
  intro ps hT hpre W hW
  simp only [c_l08New, TyA, Ty, Tys] at hT hpre
  obtain ⟨_, _, rfl, ⟨id, rfl, hid⟩, _, _, rfl, ⟨nodes, rfl, hnodes⟩, _, _, rfl, ⟨_, rfl, _, _, rfl, ⟨t, rfl, ht⟩, _, _, rfl, ⟨v, rfl, hv⟩, _, _, rfl, ⟨log, rfl, hlog, tlog⟩, rfl⟩, rfl⟩ := hT
  simp only [nth_zero, nth_succ, pv_A, pv_I, pv_L] at hpre
  obtain ⟨p1, p2, p3, p4, p5⟩ := hpre
  refine hW.vc [] _ _ ?_
  simp [-List.getD_eq_getElem?_getD, c_l08New]
  have w1 : IntKind.i64.wrap (5 + id) = 5 + id := wrap64 (by omega)
  refine hW.cutS [_] _ _ [.nb 7 140 [.int .i64, .int .i64, .int .i64, .int .i64, .int .i64, .bool, .list (.agg [.int .i64, .str]), .int .i64, .int .i64, .int .i64, .list (.int .i64), .list (.int .i64), .list (.int .i64)]] (fun ys => ys = [.agg [.int .i64 id, .int .i64 nodes, .int .i64 t, .int .i64 v, .int .i64 0, .bool true, .list log, .int .i64 0, .int .i64 0, .int .i64 (5 + id), .list [], .list [], .list (List.replicate nodes.toNat (.int .i64 0))]]) ?_ ?_
  · refine hW.vc [(1, [9, 17], .take 0 <| .take 1 <| .take 2 <| .take 4 <| .take 7 <| .take 8 <| .take 10 <| .take 11 <| .take 13 <| .tak2 3 <| .tak2 5 <| .alt 6 (.alt 9 (.alt 12 (.alt 14 (.take 15 <| .alt 16 (.alt 17 (.done) .stop) .stop) (.alt 16 (.alt 14 (.take 15 <| .alt 17 (.done) .stop) .stop) .stop)) (.alt 14 (.alt 12 (.take 15 <| .alt 16 (.alt 17 (.done) .stop) .stop) (.alt 16 (.alt 12 (.take 15 <| .alt 17 (.done) .stop) .stop) .stop)) (.alt 16 (.alt 12 (.alt 14 (.take 15 <| .alt 17 (.done) .stop) .stop) (.alt 14 (.alt 12 (.take 15 <| .alt 17 (.done) .stop) .stop) .stop)) .stop))) (.alt 12 (.alt 9 (.alt 14 (.take 15 <| .alt 16 (.alt 17 (.done) .stop) .stop) (.alt 16 (.alt 14 (.take 15 <| .alt 17 (.done) .stop) .stop) .stop)) (.alt 14 (.alt 9 (.take 15 <| .alt 16 (.alt 17 (.done) .stop) .stop) (.alt 16 (.alt 9 (.take 15 <| .alt 17 (.done) .stop) .stop) .stop)) (.alt 16 (.alt 9 (.alt 14 (.take 15 <| .alt 17 (.done) .stop) .stop) (.alt 14 (.alt 9 (.take 15 <| .alt 17 (.done) .stop) .stop) .stop)) .stop))) (.alt 14 (.alt 9 (.alt 12 (.take 15 <| .alt 16 (.alt 17 (.done) .stop) .stop) (.alt 16 (.alt 12 (.take 15 <| .alt 17 (.done) .stop) .stop) .stop)) (.alt 12 (.alt 9 (.take 15 <| .alt 16 (.alt 17 (.done) .stop) .stop) (.alt 16 (.alt 9 (.take 15 <| .alt 17 (.done) .stop) .stop) .stop)) (.alt 16 (.alt 9 (.alt 12 (.take 15 <| .alt 17 (.done) .stop) .stop) (.alt 12 (.alt 9 (.take 15 <| .alt 17 (.done) .stop) .stop) .stop)) .stop))) (.alt 16 (.alt 9 (.alt 12 (.alt 14 (.take 15 <| .alt 17 (.done) .stop) .stop) (.alt 14 (.alt 12 (.take 15 <| .alt 17 (.done) .stop) .stop) .stop)) (.alt 12 (.alt 9 (.alt 14 (.take 15 <| .alt 17 (.done) .stop) .stop) (.alt 14 (.alt 9 (.take 15 <| .alt 17 (.done) .stop) .stop) .stop)) (.alt 14 (.alt 9 (.alt 12 (.take 15 <| .alt 17 (.done) .stop) .stop) (.alt 12 (.alt 9 (.take 15 <| .alt 17 (.done) .stop) .stop) .stop)) .stop))) .stop)))) (.alt 12 (.alt 6 (.alt 9 (.alt 14 (.take 15 <| .alt 16 (.alt 17 (.done) .stop) .stop) (.alt 16 (.alt 14 (.take 15 <| .alt 17 (.done) .stop) .stop) .stop)) (.alt 14 (.alt 9 (.take 15 <| .alt 16 (.alt 17 (.done) .stop) .stop) (.alt 16 (.alt 9 (.take 15 <| .alt 17 (.done) .stop) .stop) .stop)) (.alt 16 (.alt 9 (.alt 14 (.take 15 <| .alt 17 (.done) .stop) .stop) (.alt 14 (.alt 9 (.take 15 <| .alt 17 (.done) .stop) .stop) .stop)) .stop))) (.alt 14 (.alt 6 (.alt 9 (.take 15 <| .alt 16 (.alt 17 (.done) .stop) .stop) (.alt 16 (.alt 9 (.take 15 <| .alt 17 (.done) .stop) .stop) .stop)) (.alt 16 (.alt 6 (.alt 9 (.take 15 <| .alt 17 (.done) .stop) .stop) .stop) .stop)) (.alt 16 (.alt 6 (.alt 9 (.alt 14 (.take 15 <| .alt 17 (.done) .stop) .stop) (.alt 14 (.alt 9 (.take 15 <| .alt 17 (.done) .stop) .stop) .stop)) (.alt 14 (.alt 6 (.alt 9 (.take 15 <| .alt 17 (.done) .stop) .stop) .stop) .stop)) .stop))) (.alt 14 (.alt 6 (.alt 9 (.alt 12 (.take 15 <| .alt 16 (.alt 17 (.done) .stop) .stop) (.alt 16 (.alt 12 (.take 15 <| .alt 17 (.done) .stop) .stop) .stop)) (.alt 12 (.alt 9 (.take 15 <| .alt 16 (.alt 17 (.done) .stop) .stop) (.alt 16 (.alt 9 (.take 15 <| .alt 17 (.done) .stop) .stop) .stop)) (.alt 16 (.alt 9 (.alt 12 (.take 15 <| .alt 17 (.done) .stop) .stop) (.alt 12 (.alt 9 (.take 15 <| .alt 17 (.done) .stop) .stop) .stop)) .stop))) (.alt 12 (.alt 6 (.alt 9 (.take 15 <| .alt 16 (.alt 17 (.done) .stop) .stop) (.alt 16 (.alt 9 (.take 15 <| .alt 17 (.done) .stop) .stop) .stop)) (.alt 16 (.alt 6 (.alt 9 (.take 15 <| .alt 17 (.done) .stop) .stop) .stop) .stop)) (.alt 16 (.alt 6 (.alt 9 (.alt 12 (.take 15 <| .alt 17 (.done) .stop) .stop) (.alt 12 (.alt 9 (.take 15 <| .alt 17 (.done) .stop) .stop) .stop)) (.alt 12 (.alt 6 (.alt 9 (.take 15 <| .alt 17 (.done) .stop) .stop) .stop) .stop)) .stop))) (.alt 16 (.alt 6 (.alt 9 (.alt 12 (.alt 14 (.take 15 <| .alt 17 (.done) .stop) .stop) (.alt 14 (.alt 12 (.take 15 <| .alt 17 (.done) .stop) .stop) .stop)) (.alt 12 (.alt 9 (.alt 14 (.take 15 <| .alt 17 (.done) .stop) .stop) (.alt 14 (.alt 9 (.take 15 <| .alt 17 (.done) .stop) .stop) .stop)) (.alt 14 (.alt 9 (.alt 12 (.take 15 <| .alt 17 (.done) .stop) .stop) (.alt 12 (.alt 9 (.take 15 <| .alt 17 (.done) .stop) .stop) .stop)) .stop))) (.alt 12 (.alt 6 (.alt 9 (.alt 14 (.take 15 <| .alt 17 (.done) .stop) .stop) (.alt 14 (.alt 9 (.take 15 <| .alt 17 (.done) .stop) .stop) .stop)) (.alt 14 (.alt 6 (.alt 9 (.take 15 <| .alt 17 (.done) .stop) .stop) .stop) .stop)) (.alt 14 (.alt 6 (.alt 9 (.alt 12 (.take 15 <| .alt 17 (.done) .stop) .stop) (.alt 12 (.alt 9 (.take 15 <| .alt 17 (.done) .stop) .stop) .stop)) (.alt 12 (.alt 6 (.alt 9 (.take 15 <| .alt 17 (.done) .stop) .stop) .stop) .stop)) .stop))) .stop))))] _ _ ?_
    simp (maxSteps := 20000000) [-List.reduceReplicate, -List.getD_eq_getElem?_getD, c_l08New, w1]
    refine ⟨by decide +kernel, ?_⟩
    and_intros <;> omega
  · rintro ys rfl
    refine hW.vc [(1, [9, 17], .take 0 <| .take 1 <| .take 2 <| .take 4 <| .take 7 <| .take 8 <| .take 10 <| .take 11 <| .take 13 <| .tak2 3 <| .tak2 5 <| .alt 6 (.alt 9 (.alt 12 (.alt 14 (.take 15 <| .alt 16 (.alt 17 (.done) .stop) .stop) (.alt 16 (.alt 14 (.take 15 <| .alt 17 (.done) .stop) .stop) .stop)) (.alt 14 (.alt 12 (.take 15 <| .alt 16 (.alt 17 (.done) .stop) .stop) (.alt 16 (.alt 12 (.take 15 <| .alt 17 (.done) .stop) .stop) .stop)) (.alt 16 (.alt 12 (.alt 14 (.take 15 <| .alt 17 (.done) .stop) .stop) (.alt 14 (.alt 12 (.take 15 <| .alt 17 (.done) .stop) .stop) .stop)) .stop))) (.alt 12 (.alt 9 (.alt 14 (.take 15 <| .alt 16 (.alt 17 (.done) .stop) .stop) (.alt 16 (.alt 14 (.take 15 <| .alt 17 (.done) .stop) .stop) .stop)) (.alt 14 (.alt 9 (.take 15 <| .alt 16 (.alt 17 (.done) .stop) .stop) (.alt 16 (.alt 9 (.take 15 <| .alt 17 (.done) .stop) .stop) .stop)) (.alt 16 (.alt 9 (.alt 14 (.take 15 <| .alt 17 (.done) .stop) .stop) (.alt 14 (.alt 9 (.take 15 <| .alt 17 (.done) .stop) .stop) .stop)) .stop))) (.alt 14 (.alt 9 (.alt 12 (.take 15 <| .alt 16 (.alt 17 (.done) .stop) .stop) (.alt 16 (.alt 12 (.take 15 <| .alt 17 (.done) .stop) .stop) .stop)) (.alt 12 (.alt 9 (.take 15 <| .alt 16 (.alt 17 (.done) .stop) .stop) (.alt 16 (.alt 9 (.take 15 <| .alt 17 (.done) .stop) .stop) .stop)) (.alt 16 (.alt 9 (.alt 12 (.take 15 <| .alt 17 (.done) .stop) .stop) (.alt 12 (.alt 9 (.take 15 <| .alt 17 (.done) .stop) .stop) .stop)) .stop))) (.alt 16 (.alt 9 (.alt 12 (.alt 14 (.take 15 <| .alt 17 (.done) .stop) .stop) (.alt 14 (.alt 12 (.take 15 <| .alt 17 (.done) .stop) .stop) .stop)) (.alt 12 (.alt 9 (.alt 14 (.take 15 <| .alt 17 (.done) .stop) .stop) (.alt 14 (.alt 9 (.take 15 <| .alt 17 (.done) .stop) .stop) .stop)) (.alt 14 (.alt 9 (.alt 12 (.take 15 <| .alt 17 (.done) .stop) .stop) (.alt 12 (.alt 9 (.take 15 <| .alt 17 (.done) .stop) .stop) .stop)) .stop))) .stop)))) (.alt 12 (.alt 6 (.alt 9 (.alt 14 (.take 15 <| .alt 16 (.alt 17 (.done) .stop) .stop) (.alt 16 (.alt 14 (.take 15 <| .alt 17 (.done) .stop) .stop) .stop)) (.alt 14 (.alt 9 (.take 15 <| .alt 16 (.alt 17 (.done) .stop) .stop) (.alt 16 (.alt 9 (.take 15 <| .alt 17 (.done) .stop) .stop) .stop)) (.alt 16 (.alt 9 (.alt 14 (.take 15 <| .alt 17 (.done) .stop) .stop) (.alt 14 (.alt 9 (.take 15 <| .alt 17 (.done) .stop) .stop) .stop)) .stop))) (.alt 14 (.alt 6 (.alt 9 (.take 15 <| .alt 16 (.alt 17 (.done) .stop) .stop) (.alt 16 (.alt 9 (.take 15 <| .alt 17 (.done) .stop) .stop) .stop)) (.alt 16 (.alt 6 (.alt 9 (.take 15 <| .alt 17 (.done) .stop) .stop) .stop) .stop)) (.alt 16 (.alt 6 (.alt 9 (.alt 14 (.take 15 <| .alt 17 (.done) .stop) .stop) (.alt 14 (.alt 9 (.take 15 <| .alt 17 (.done) .stop) .stop) .stop)) (.alt 14 (.alt 6 (.alt 9 (.take 15 <| .alt 17 (.done) .stop) .stop) .stop) .stop)) .stop))) (.alt 14 (.alt 6 (.alt 9 (.alt 12 (.take 15 <| .alt 16 (.alt 17 (.done) .stop) .stop) (.alt 16 (.alt 12 (.take 15 <| .alt 17 (.done) .stop) .stop) .stop)) (.alt 12 (.alt 9 (.take 15 <| .alt 16 (.alt 17 (.done) .stop) .stop) (.alt 16 (.alt 9 (.take 15 <| .alt 17 (.done) .stop) .stop) .stop)) (.alt 16 (.alt 9 (.alt 12 (.take 15 <| .alt 17 (.done) .stop) .stop) (.alt 12 (.alt 9 (.take 15 <| .alt 17 (.done) .stop) .stop) .stop)) .stop))) (.alt 12 (.alt 6 (.alt 9 (.take 15 <| .alt 16 (.alt 17 (.done) .stop) .stop) (.alt 16 (.alt 9 (.take 15 <| .alt 17 (.done) .stop) .stop) .stop)) (.alt 16 (.alt 6 (.alt 9 (.take 15 <| .alt 17 (.done) .stop) .stop) .stop) .stop)) (.alt 16 (.alt 6 (.alt 9 (.alt 12 (.take 15 <| .alt 17 (.done) .stop) .stop) (.alt 12 (.alt 9 (.take 15 <| .alt 17 (.done) .stop) .stop) .stop)) (.alt 12 (.alt 6 (.alt 9 (.take 15 <| .alt 17 (.done) .stop) .stop) .stop) .stop)) .stop))) (.alt 16 (.alt 6 (.alt 9 (.alt 12 (.alt 14 (.take 15 <| .alt 17 (.done) .stop) .stop) (.alt 14 (.alt 12 (.take 15 <| .alt 17 (.done) .stop) .stop) .stop)) (.alt 12 (.alt 9 (.alt 14 (.take 15 <| .alt 17 (.done) .stop) .stop) (.alt 14 (.alt 9 (.take 15 <| .alt 17 (.done) .stop) .stop) .stop)) (.alt 14 (.alt 9 (.alt 12 (.take 15 <| .alt 17 (.done) .stop) .stop) (.alt 12 (.alt 9 (.take 15 <| .alt 17 (.done) .stop) .stop) .stop)) .stop))) (.alt 12 (.alt 6 (.alt 9 (.alt 14 (.take 15 <| .alt 17 (.done) .stop) .stop) (.alt 14 (.alt 9 (.take 15 <| .alt 17 (.done) .stop) .stop) .stop)) (.alt 14 (.alt 6 (.alt 9 (.take 15 <| .alt 17 (.done) .stop) .stop) .stop) .stop)) (.alt 14 (.alt 6 (.alt 9 (.alt 12 (.take 15 <| .alt 17 (.done) .stop) .stop) (.alt 12 (.alt 9 (.take 15 <| .alt 17 (.done) .stop) .stop) .stop)) (.alt 12 (.alt 6 (.alt 9 (.take 15 <| .alt 17 (.done) .stop) .stop) .stop) .stop)) .stop))) .stop))))] _ _ ?_
    simp [-List.reduceReplicate, -List.getD_eq_getElem?_getD, c_l08New]
    refine hW.loopS _ _ _ [.bx 7 [.int .i64, .int .i64, .int .i64, .int .i64, .int .i64, .bool, .list (.agg [.int .i64, .str]), .int .i64, .int .i64, .int .i64, .list (.int .i64), .list (.int .i64), .list (.int .i64)], .sl 8 .dp (.int .i64)] (fun ys => ∃ i : Nat, ys = [.agg [.int .i64 id, .int .i64 nodes, .int .i64 t, .int .i64 v, .int .i64 0, .bool true, .list log, .int .i64 0, .int .i64 0, .int .i64 (5 + id), .list [], .list (List.replicate i (.int .i64 1)), .list (List.replicate nodes.toNat (.int .i64 0))], .int .i64 i] ∧ (i : Int) ≤ nodes) (fun ys => nodes.toNat - (nth ys 1).I.toNat) ?_ ?_
    · simp [-List.reduceReplicate, -List.getD_eq_getElem?_getD, c_l08New]
      exact ⟨0, ⟨rfl, rfl⟩, by omega⟩
    · rintro ys ⟨i, rfl, g1⟩
      refine hW.vc [(1, [9, 17], .take 0 <| .take 1 <| .take 2 <| .take 4 <| .take 7 <| .take 8 <| .take 10 <| .take 11 <| .take 13 <| .tak2 3 <| .tak2 5 <| .alt 6 (.alt 9 (.alt 12 (.alt 14 (.take 15 <| .alt 16 (.alt 17 (.done) .stop) .stop) (.alt 16 (.alt 14 (.take 15 <| .alt 17 (.done) .stop) .stop) .stop)) (.alt 14 (.alt 12 (.take 15 <| .alt 16 (.alt 17 (.done) .stop) .stop) (.alt 16 (.alt 12 (.take 15 <| .alt 17 (.done) .stop) .stop) .stop)) (.alt 16 (.alt 12 (.alt 14 (.take 15 <| .alt 17 (.done) .stop) .stop) (.alt 14 (.alt 12 (.take 15 <| .alt 17 (.done) .stop) .stop) .stop)) .stop))) (.alt 12 (.alt 9 (.alt 14 (.take 15 <| .alt 16 (.alt 17 (.done) .stop) .stop) (.alt 16 (.alt 14 (.take 15 <| .alt 17 (.done) .stop) .stop) .stop)) (.alt 14 (.alt 9 (.take 15 <| .alt 16 (.alt 17 (.done) .stop) .stop) (.alt 16 (.alt 9 (.take 15 <| .alt 17 (.done) .stop) .stop) .stop)) (.alt 16 (.alt 9 (.alt 14 (.take 15 <| .alt 17 (.done) .stop) .stop) (.alt 14 (.alt 9 (.take 15 <| .alt 17 (.done) .stop) .stop) .stop)) .stop))) (.alt 14 (.alt 9 (.alt 12 (.take 15 <| .alt 16 (.alt 17 (.done) .stop) .stop) (.alt 16 (.alt 12 (.take 15 <| .alt 17 (.done) .stop) .stop) .stop)) (.alt 12 (.alt 9 (.take 15 <| .alt 16 (.alt 17 (.done) .stop) .stop) (.alt 16 (.alt 9 (.take 15 <| .alt 17 (.done) .stop) .stop) .stop)) (.alt 16 (.alt 9 (.alt 12 (.take 15 <| .alt 17 (.done) .stop) .stop) (.alt 12 (.alt 9 (.take 15 <| .alt 17 (.done) .stop) .stop) .stop)) .stop))) (.alt 16 (.alt 9 (.alt 12 (.alt 14 (.take 15 <| .alt 17 (.done) .stop) .stop) (.alt 14 (.alt 12 (.take 15 <| .alt 17 (.done) .stop) .stop) .stop)) (.alt 12 (.alt 9 (.alt 14 (.take 15 <| .alt 17 (.done) .stop) .stop) (.alt 14 (.alt 9 (.take 15 <| .alt 17 (.done) .stop) .stop) .stop)) (.alt 14 (.alt 9 (.alt 12 (.take 15 <| .alt 17 (.done) .stop) .stop) (.alt 12 (.alt 9 (.take 15 <| .alt 17 (.done) .stop) .stop) .stop)) .stop))) .stop)))) (.alt 12 (.alt 6 (.alt 9 (.alt 14 (.take 15 <| .alt 16 (.alt 17 (.done) .stop) .stop) (.alt 16 (.alt 14 (.take 15 <| .alt 17 (.done) .stop) .stop) .stop)) (.alt 14 (.alt 9 (.take 15 <| .alt 16 (.alt 17 (.done) .stop) .stop) (.alt 16 (.alt 9 (.take 15 <| .alt 17 (.done) .stop) .stop) .stop)) (.alt 16 (.alt 9 (.alt 14 (.take 15 <| .alt 17 (.done) .stop) .stop) (.alt 14 (.alt 9 (.take 15 <| .alt 17 (.done) .stop) .stop) .stop)) .stop))) (.alt 14 (.alt 6 (.alt 9 (.take 15 <| .alt 16 (.alt 17 (.done) .stop) .stop) (.alt 16 (.alt 9 (.take 15 <| .alt 17 (.done) .stop) .stop) .stop)) (.alt 16 (.alt 6 (.alt 9 (.take 15 <| .alt 17 (.done) .stop) .stop) .stop) .stop)) (.alt 16 (.alt 6 (.alt 9 (.alt 14 (.take 15 <| .alt 17 (.done) .stop) .stop) (.alt 14 (.alt 9 (.take 15 <| .alt 17 (.done) .stop) .stop) .stop)) (.alt 14 (.alt 6 (.alt 9 (.take 15 <| .alt 17 (.done) .stop) .stop) .stop) .stop)) .stop))) (.alt 14 (.alt 6 (.alt 9 (.alt 12 (.take 15 <| .alt 16 (.alt 17 (.done) .stop) .stop) (.alt 16 (.alt 12 (.take 15 <| .alt 17 (.done) .stop) .stop) .stop)) (.alt 12 (.alt 9 (.take 15 <| .alt 16 (.alt 17 (.done) .stop) .stop) (.alt 16 (.alt 9 (.take 15 <| .alt 17 (.done) .stop) .stop) .stop)) (.alt 16 (.alt 9 (.alt 12 (.take 15 <| .alt 17 (.done) .stop) .stop) (.alt 12 (.alt 9 (.take 15 <| .alt 17 (.done) .stop) .stop) .stop)) .stop))) (.alt 12 (.alt 6 (.alt 9 (.take 15 <| .alt 16 (.alt 17 (.done) .stop) .stop) (.alt 16 (.alt 9 (.take 15 <| .alt 17 (.done) .stop) .stop) .stop)) (.alt 16 (.alt 6 (.alt 9 (.take 15 <| .alt 17 (.done) .stop) .stop) .stop) .stop)) (.alt 16 (.alt 6 (.alt 9 (.alt 12 (.take 15 <| .alt 17 (.done) .stop) .stop) (.alt 12 (.alt 9 (.take 15 <| .alt 17 (.done) .stop) .stop) .stop)) (.alt 12 (.alt 6 (.alt 9 (.take 15 <| .alt 17 (.done) .stop) .stop) .stop) .stop)) .stop))) (.alt 16 (.alt 6 (.alt 9 (.alt 12 (.alt 14 (.take 15 <| .alt 17 (.done) .stop) .stop) (.alt 14 (.alt 12 (.take 15 <| .alt 17 (.done) .stop) .stop) .stop)) (.alt 12 (.alt 9 (.alt 14 (.take 15 <| .alt 17 (.done) .stop) .stop) (.alt 14 (.alt 9 (.take 15 <| .alt 17 (.done) .stop) .stop) .stop)) (.alt 14 (.alt 9 (.alt 12 (.take 15 <| .alt 17 (.done) .stop) .stop) (.alt 12 (.alt 9 (.take 15 <| .alt 17 (.done) .stop) .stop) .stop)) .stop))) (.alt 12 (.alt 6 (.alt 9 (.alt 14 (.take 15 <| .alt 17 (.done) .stop) .stop) (.alt 14 (.alt 9 (.take 15 <| .alt 17 (.done) .stop) .stop) .stop)) (.alt 14 (.alt 6 (.alt 9 (.take 15 <| .alt 17 (.done) .stop) .stop) .stop) .stop)) (.alt 14 (.alt 6 (.alt 9 (.alt 12 (.take 15 <| .alt 17 (.done) .stop) .stop) (.alt 12 (.alt 9 (.take 15 <| .alt 17 (.done) .stop) .stop) .stop)) (.alt 12 (.alt 6 (.alt 9 (.take 15 <| .alt 17 (.done) .stop) .stop) .stop) .stop)) .stop))) .stop))))] _ _ ?_
      simp [-List.reduceReplicate, -List.getD_eq_getElem?_getD, c_l08New, newND, ND.pv]
      rw [wrap64 (n := (i : Int) + 1) (by omega)]
      refine ⟨fun h => ⟨by omega, fun _ => ⟨⟨i + 1, ⟨(List.replicate_succ').symm, rfl⟩, by omega⟩, by omega⟩⟩, fun h => ?_⟩
      have : i = nodes.toNat := by omega
      rw [this]
end Go.Proofs.YtkofjkjcbljkdaaGreatDoor
end

section
namespace Go.Proofs.YtkofjkjcbljkdaaGreatDoor
variable [LaidG]
set_option maxRecDepth 100000
set_option linter.unusedSimpArgs false
def c_newNode : FSpec := ⟨[(.rd, .int .i64), (.rd, .int .i64)], [.agg [.int .i64, .int .i64, .int .i64, .int .i64, .int .i64, .bool, .list (.agg [.int .i64, .str]), .int .i64, .int .i64, .int .i64, .list (.int .i64), .list (.int .i64), .list (.int .i64)]], true, fun ps => 0 ≤ (nth ps 0).I ∧ (nth ps 0).I ≤ 1000 ∧ 1 ≤ (nth ps 1).I ∧ (nth ps 1).I ≤ 5, fun ps => [(newND (nth ps 0).I (nth ps 1).I 0 (-1) []).pv], fun _ => []⟩
theorem k_newNode : FnOk Tryz.prog 131 c_newNode := by
  refine fn_mk [0, 1, 4, 5] [.cell 4 140] (env_cons (cs := []) k_follow (env_nil (tyTab_ok []))) mixed Tryz.func131 rfl (by decide) rfl (by decide) rfl ?_
  intro ps hT hpre W hW
  simp only [c_newNode, TyA, Ty, Tys] at hT hpre
  obtain ⟨_, _, rfl, ⟨id, rfl, hid⟩, _, _, rfl, ⟨nodes, rfl, hnodes⟩, rfl⟩ := hT
  simp only [nth_zero, nth_succ, pv_I] at hpre
  refine hW.vc [] _ _ ?_
  simp [-List.getD_eq_getElem?_getD, c_newNode, c_follow, newND, ND.pv, followN, ndOf]
  exact ⟨⟨hpre.2.2.1, hpre.2.2.2⟩, wrap64 (by omega)⟩
def newNs (nodes : Int) : Nat → List PV
  | 0 => []
  | k + 1 => newNs nodes k ++ [(newND k nodes 0 (-1) []).pv]
theorem newNs_len (nodes : Int) : ∀ k, (newNs nodes k).length = k
  | 0 => rfl
  | k + 1 => by simp [newNs, newNs_len nodes k]
def st0 : PV := .agg [.str [], .int .i64 0]
def c_newCluster : FSpec := ⟨[(.rd, .int .i64)], [.agg [.list (.agg [.int .i64, .int .i64, .int .i64, .int .i64, .int .i64, .bool, .list (.agg [.int .i64, .str]), .int .i64, .int .i64, .int .i64, .list (.int .i64), .list (.int .i64), .list (.int .i64)]), .list (.agg [.str, .int .i64]), .list (.agg [.int .i64, .int .i64, .int .i64, .int .i64, .int .i64, .int .i64, .int .i64, .bool, .list (.agg [.int .i64, .str])]), .list .str]], true, fun ps => 1 ≤ (nth ps 0).I ∧ (nth ps 0).I ≤ 5, fun ps => [.agg [.list (newNs (nth ps 0).I (nth ps 0).I.toNat), .list (List.replicate (nth ps 0).I.toNat st0), .list [], .list []]], fun _ => []⟩
theorem k_newCluster : FnOk Tryz.prog 78 c_newCluster := by
  refine fn_mk [0, 2, 3, 4, 8, 9] [.cell 2 47] (env_cons (cs := []) k_newNode (env_nil (tyTab_ok []))) mixed Tryz.func78 rfl (by decide) rfl (by decide) rfl ?_
  intro ps hT hpre W hW
  simp only [c_newCluster, TyA, Ty, Tys] at hT hpre
  obtain ⟨_, _, rfl, ⟨nodes, rfl, hnodes⟩, rfl⟩ := hT
  simp only [nth_zero, nth_succ, pv_I] at hpre
  refine hW.vc [(5, [6, 8], .take 0 <| .take 1 <| .take 2 <| .take 3 <| .alt 4 (.alt 5 (.alt 6 (.take 7 <| .alt 8 (.done) .stop) .stop) .stop) .stop)] _ _ ?_
  simp [-List.reduceReplicate, -List.getD_eq_getElem?_getD, c_newCluster, c_newNode]
  refine ⟨⟨by omega, by omega, by omega⟩, ?_⟩
  refine hW.loopS _ _ _ [.bx 3 [.list (.agg [.int .i64, .int .i64, .int .i64, .int .i64, .int .i64, .bool, .list (.agg [.int .i64, .str]), .int .i64, .int .i64, .int .i64, .list (.int .i64), .list (.int .i64), .list (.int .i64)]), .list (.agg [.str, .int .i64]), .list (.agg [.int .i64, .int .i64, .int .i64, .int .i64, .int .i64, .int .i64, .int .i64, .bool, .list (.agg [.int .i64, .str])]), .list .str], .sl 9 .dp (.int .i64)] (fun ys => ∃ i : Nat, ys = [.agg [.list (newNs nodes i), .list (List.replicate nodes.toNat st0), .list [], .list []], .int .i64 i] ∧ (i : Int) ≤ nodes) (fun ys => nodes.toNat - (nth ys 1).I.toNat) ?_ ?_
  · simp [-List.reduceReplicate, -List.getD_eq_getElem?_getD, c_newCluster, c_newNode]
    exact ⟨0, ⟨⟨rfl, .inr rfl⟩, rfl⟩, by omega⟩
  · rintro ys ⟨i, rfl, g1⟩
    have w1 : IntKind.i64.wrap ((i : Int) + 1) = i + 1 := wrap64 (by omega)
    have hl := newNs_len nodes i
    refine hW.vc [(5, [6, 8], .take 0 <| .take 1 <| .take 2 <| .take 3 <| .alt 4 (.alt 5 (.alt 6 (.take 7 <| .alt 8 (.done) .stop) .stop) .stop) .stop)] _ _ ?_
    simp [-List.reduceReplicate, -List.getD_eq_getElem?_getD, c_newCluster, c_newNode, newND, ND.pv, w1]
    refine ⟨fun h => ⟨by decide +kernel, ⟨by omega, by omega, by omega⟩, by omega, fun _ => ⟨⟨i + 1, ⟨rfl, rfl⟩, by omega⟩, by omega⟩⟩, fun h => ?_⟩
    have : i = nodes.toNat := by omega
    rw [this]
def c_l09New : FSpec := c_newCluster
theorem k_l09New : FnOk Tryz.prog 76 c_l09New := by
  refine fn_mk [0, 2, 3, 4] [.cell 2 47] (env_cons (cs := []) k_l08New (env_nil (tyTab_ok []))) mixed Tryz.func76 rfl (by decide) rfl (by decide) rfl ?_
  intro ps hT hpre W hW
  simp only [c_l09New, TyA, Ty, Tys] at hT hpre
  simp only [c_newCluster, TyA, Ty, Tys] at hT hpre
  obtain ⟨_, _, rfl, ⟨nodes, rfl, hnodes⟩, rfl⟩ := hT
  simp only [nth_zero, nth_succ, pv_I] at hpre
  refine hW.vc [(5, [7, 9], .take 0 <| .take 1 <| .take 2 <| .take 3 <| .take 4 <| .alt 5 (.alt 6 (.alt 7 (.take 8 <| .alt 9 (.done) .stop) .stop) .stop) .stop)] _ _ ?_
  simp [-List.reduceReplicate, -List.getD_eq_getElem?_getD, c_l09New, c_l08New, c_newCluster, c_newCluster]
  refine hW.loopS _ _ _ [.bx 3 [.list (.agg [.int .i64, .int .i64, .int .i64, .int .i64, .int .i64, .bool, .list (.agg [.int .i64, .str]), .int .i64, .int .i64, .int .i64, .list (.int .i64), .list (.int .i64), .list (.int .i64)]), .list (.agg [.str, .int .i64]), .list (.agg [.int .i64, .int .i64, .int .i64, .int .i64, .int .i64, .int .i64, .int .i64, .bool, .list (.agg [.int .i64, .str])]), .list .str], .sl 4 .dp (.int .i64)] (fun ys => ∃ i : Nat, ys = [.agg [.list (newNs nodes i), .list (List.replicate i st0), .list [], .list []], .int .i64 i] ∧ (i : Int) ≤ nodes) (fun ys => nodes.toNat - (nth ys 1).I.toNat) ?_ ?_
  · simp [-List.reduceReplicate, -List.getD_eq_getElem?_getD, c_l09New, c_l08New, c_newCluster]
    exact ⟨0, ⟨⟨rfl, rfl⟩, rfl⟩, by omega⟩
  · rintro ys ⟨i, rfl, g1⟩
    have w1 : IntKind.i64.wrap ((i : Int) + 1) = i + 1 := wrap64 (by omega)
    have hl := newNs_len nodes i
    refine hW.vc [(5, [7, 9], .take 0 <| .take 1 <| .take 2 <| .take 3 <| .take 4 <| .alt 5 (.alt 6 (.alt 7 (.take 8 <| .alt 9 (.done) .stop) .stop) .stop) .stop)] _ _ ?_
    simp [-List.reduceReplicate, -List.getD_eq_getElem?_getD, c_l09New, c_l08New, c_newCluster, newND, ND.pv, w1, c_newCluster]
    refine ⟨fun h => ⟨by decide +kernel, ⟨by omega, by omega, by omega⟩, by omega, fun _ => ⟨by omega, fun _ => ⟨⟨i + 1, ⟨⟨rfl, (List.replicate_succ').symm⟩, rfl⟩, by omega⟩, by omega⟩⟩⟩, fun h => ?_⟩
    have : i = nodes.toNat := by omega
    exact ⟨by rw [← this], this⟩
end Go.Proofs.YtkofjkjcbljkdaaGreatDoor
end

section
namespace Go.Proofs.YtkofjkjcbljkdaaGreatDoor
variable [LaidG]
set_option maxRecDepth 100000
set_option linter.unusedSimpArgs false
def rotI (x by_ : Int) : Int := orI .u32 (shlI .u32 x (32 - by_)) (shrI .u32 x by_)
theorem orI_comm (k : IntKind) (a b : Int) : orI k a b = orI k b a := by unfold orI; rw [BitVec.or_comm]
def c_Rotate : FSpec := ⟨[(.rd, .int .u32), (.rd, .int .i64)], [.int .u32], true, fun ps => -32 < (nth ps 1).I ∧ (nth ps 1).I < 0, fun ps => [.int .u32 (rotI (nth ps 0).I (-(nth ps 1).I))], fun _ => []⟩
theorem k_Rotate : FnOk Tryz.prog 280 c_Rotate := by
  refine fn_mk [0, 1, 4, 5] [.tmp 4] (env_nil (tyTab_ok [])) mixed Tryz.func280 rfl (by decide) rfl (by decide) rfl ?_
  intro ps hT hpre W hW
  simp only [c_Rotate, TyA, Ty, Tys] at hT hpre
  obtain ⟨_, _, rfl, ⟨x, rfl, hx⟩, _, _, rfl, ⟨b, rfl, hb⟩, rfl⟩ := hT
  simp only [nth_zero, nth_succ, pv_I] at hpre
  obtain ⟨p1, p2⟩ := hpre
  have key : ∀ n : Fin 32, 0 < n.1 → andI .u64 (IntKind.u64.wrap (-(n.1 : Int))) 31 = 32 - n.1 := by decide
  have h1 := key ⟨(-b).toNat, by omega⟩ (by simp only; omega)
  simp only at h1
  have e : (((-b).toNat : Nat) : Int) = -b := by omega
  rw [e, Int.neg_neg] at h1
  refine hW.vc [] _ _ ?_
  simp [-List.getD_eq_getElem?_getD, c_Rotate]
  rw [h1, wrapU64 (by omega)]
  have e3 : (32 : Int) - (32 - -b) = -b := by omega
  rw [e3]
  exact ⟨by omega, by omega, rfl⟩
def c_turned : FSpec := ⟨[(.rd, .int .u32), (.rd, .int .i64)], [.int .u32], true, fun ps => 0 < (nth ps 1).I ∧ (nth ps 1).I < 32, fun ps => [.int .u32 (rotI (nth ps 0).I (nth ps 1).I)], fun _ => []⟩
theorem k_turned : FnOk Tryz.prog 272 c_turned := by
  refine fn_mk [0, 1, 4] [.tmp 4] (env_cons (cs := []) k_Rotate (env_nil (tyTab_ok []))) mixed Tryz.func272 rfl (by decide) rfl (by decide) rfl ?_
  intro ps hT hpre W hW
  simp only [c_turned, TyA, Ty, Tys] at hT hpre
  obtain ⟨_, _, rfl, ⟨x, rfl, hx⟩, _, _, rfl, ⟨b, rfl, hb⟩, rfl⟩ := hT
  simp only [nth_zero, nth_succ, pv_I] at hpre
  obtain ⟨p1, p2⟩ := hpre
  refine hW.vc [] _ _ ?_
  simp [-List.getD_eq_getElem?_getD, c_turned, c_Rotate]
  rw [wrap64 (by omega), Int.neg_neg]
  exact ⟨⟨by omega, by omega⟩, rfl⟩
def c_l01Turn : FSpec := ⟨[(.rd, .int .u32), (.rd, .int .u64)], [.int .u32], true, fun ps => 0 < (nth ps 1).I ∧ (nth ps 1).I < 32, fun ps => [.int .u32 (rotI (nth ps 0).I (nth ps 1).I)], fun _ => []⟩
theorem k_l01Turn : FnOk Tryz.prog 260 c_l01Turn := by
  refine fn_mk [0, 1, 4] [.tmp 4] (env_nil (tyTab_ok [])) mixed Tryz.func260 rfl (by decide) rfl (by decide) rfl ?_
  intro ps hT hpre W hW
  simp only [c_l01Turn, TyA, Ty, Tys] at hT hpre
  obtain ⟨_, _, rfl, ⟨x, rfl, hx⟩, _, _, rfl, ⟨b, rfl, hb⟩, rfl⟩ := hT
  simp only [nth_zero, nth_succ, pv_I] at hpre
  obtain ⟨p1, p2⟩ := hpre
  refine hW.vc [] _ _ ?_
  simp [-List.getD_eq_getElem?_getD, c_l01Turn]
  rw [wrapU64 (by omega)]
  exact ⟨by omega, by omega, by rw [rotI, orI_comm]⟩
end Go.Proofs.YtkofjkjcbljkdaaGreatDoor
end

