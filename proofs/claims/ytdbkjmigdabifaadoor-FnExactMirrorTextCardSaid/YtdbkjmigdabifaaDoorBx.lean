/-
  What the writing functions of strings.Builder do with a builder.
  Conditions: none.
-/
import Derived.Test.YtdbkjmigdabifaaDoorBw
namespace Go.Proofs.YtdbkjmigdabifaaDoor
open Go.Lib Go.RowKit
set_option linter.unusedVariables false

set_option maxHeartbeats 2000000 in
set_option maxRecDepth 100000 in
theorem bld_ws (b : Nat) (l : List UInt8) (s : ByteArray) (w : World) (f : List Nat) (h : BldAt 70 5 b l w f) (hlen : l.length + s.size ≤ 140737488355328) :
    Calls Tryd.prog 114 #[.pointer (some ⟨b, 0, none⟩), .string s] w fun e w' => e = .returned (.tuple #[.int .i64 s.size, .nilIface]) ∧ ∃ f', BldAt 70 5 b (l ++ s.data.toList) w' f' ∧ Fr w f w' ∧ ∀ x ∈ f', x ∈ f ∨ w.heap.size ≤ x := by
  obtain ⟨i0, hi, hz0, hz1, hz2⟩ := info_parts infoB
  have hbw : b < w.heap.size := by
    obtain ⟨p, v, _, hb, _⟩ := h
    exact (Array.getElem?_eq_some_iff.1 hb).1
  have hrow : ∀ v, f = b :: v → ∀ k ∈ v, k < w.heap.size := by
    obtain ⟨p, v, _, hb, hown, _, hf⟩ := h
    intro v' hv' k hk
    rw [hf] at hv'; cases hv'
    exact (hown.lt k (by simpa using hk)).2
  go_enter Tryd.func114, Tryd.ntmps114
  go_wp2_with (go_at_call 77; refine (bld_check b l _ f h).mono ?_)
  rintro e w1 ⟨rfl, hU, hF1⟩
  obtain ⟨v, hbk, hown, hne, hf⟩ := hU
  have c0 : w1.cell? ⟨b, 0, none⟩ = some (.pointer (some ⟨b, 0, none⟩)) := by simp [World.cell?, hbk]
  have c1 : w1.cell? ⟨b, 1, none⟩ = some v := by simp [World.cell?, hbk]
  go_wp2_with (at_builtin; refine wpList_app_str rfl _ _ 68 9 rfl 5 i0 Tryd.underlying68 Tryd.underlying9 hi hz0 hz1 hz2 _ _ _ rfl hown s rfl ?c3 ?c4 ?_)
  case c3 => unfold maxLen; omega
  case c4 => omega
  intro v' w2 hown' hgrow ho
  have hb2 : w2.heap[b]? = some (.cells #[.pointer (some ⟨b, 0, none⟩), v] 70 (0, 0)) := by
    rw [hgrow.block b (Array.getElem?_eq_some_iff.1 hbk).1 (fun e => hne e.symm)]
    exact hbk
  have d0 : w2.cell? ⟨b, 0, none⟩ = some (.pointer (some ⟨b, 0, none⟩)) := by simp [World.cell?, hb2]
  have d1 : w2.cell? ⟨b, 1, none⟩ = some v := by simp [World.cell?, hb2]
  have f1 : w2.frozen? ⟨b, 1, none⟩ = false := by simp [World.frozen?, hb2]
  obtain ⟨ao, n', cap, rfl⟩ : ∃ ao n' cap, v' = .slice ao n' cap := by
    rcases hown'.2 with ⟨hv, _⟩ | ⟨g, cap, cur, hv, _⟩
    · exact ⟨_, _, _, hv⟩
    · exact ⟨_, _, _, hv⟩
  go_wp2
  go_ret2
  have e1 : l.map (fun x => Value.int .u8 x.toNat) ++ strCells s = (l ++ s.data.toList).map fun x => Value.int .u8 x.toNat := by simp [strCells]
  have e2 : l.length + s.size = (l ++ s.data.toList).length := by rw [List.length_append, Array.length_toList]; rfl
  rw [e1, e2] at hown'
  refine ⟨rfl, ?_⟩
  exact bld_put (by decide) hF1 hbw hbk hne hf hown' hgrow (ho.imp (fun h => h) fun h => ⟨_, h, hF1.size⟩) (fun k hk => hrow _ hf k (by rw [hk]; exact List.mem_singleton.2 rfl))




set_option maxHeartbeats 1000000 in
set_option maxRecDepth 100000 in
theorem bld_len (b : Nat) (l : List UInt8) (w : World) (f : List Nat) (h : BldAt 70 5 b l w f) :
    Calls Tryd.prog 115 #[.pointer (some ⟨b, 0, none⟩)] w fun e w' => e = .returned (.int .i64 l.length) ∧ w' = w := by
  obtain ⟨p, v, _, hbk, hown, hne, hf⟩ := h
  obtain ⟨ao, cap, rfl⟩ : ∃ ao cap, v = .slice ao l.length cap := by
    rcases hown.2 with ⟨hv, h0⟩ | ⟨g, cap, cur, hv, _⟩
    · exact ⟨none, 0, by rw [hv, h0]⟩
    · exact ⟨_, _, hv⟩
  have c1 : w.cell? ⟨b, 1, none⟩ = some (.slice ao l.length cap) := by simp [World.cell?, hbk]
  go_enter Tryd.func115, Tryd.ntmps115
  go_wp2
  go_ret
  exact ⟨rfl, rfl⟩


theorem cellsB : Tryd.prog.cellsOf 5 = 1 := by kernel_rfl

theorem fr_freeze {w : World} {f : List Nat} (g n : Nat) (hg : g ∈ f) : Fr w f (w.drew.freeze ⟨g, 0, none⟩ n) := by
  have h : Fr w.drew f (w.drew.freeze ⟨g, 0, none⟩ n) := by
    unfold World.freeze
    split
    · exact Fr.refl _ _
    · exact ⟨rfl, rfl, rfl, by simp, fun k hk hn => by
        simp only [Array.getElem?_modify]
        rw [if_neg (fun e => hn (by rw [← e]; exact hg))]⟩
  exact ⟨h.os, h.tape, h.output, h.size, h.block⟩

set_option maxHeartbeats 2000000 in
set_option maxRecDepth 100000 in
theorem bld_str (b : Nat) (l : List UInt8) (w : World) (f : List Nat) (h : BldAt 70 5 b l w f) (h0 : l ≠ []) :
    Calls Tryd.prog 60 #[.pointer (some ⟨b, 0, none⟩)] w fun e w' => e = .returned (.string ⟨l.toArray⟩) ∧ Fr w f w' := by
  obtain ⟨p, v, _, hbk, hown, hne, hf⟩ := h
  have hl0 : l.length ≠ 0 := by simpa using h0
  obtain ⟨g, cap, cur, rfl, hbg, hg, hnc, hcm, hcs, htake⟩ : ∃ g cap cur, v = .slice (some ⟨g, 0, none⟩) l.length cap ∧ 0 ≤ g ∧ w.heap[g]? = some (.cells cur 5 (0, 0)) ∧ l.length ≤ cap ∧ cap ≤ maxLen ∧ cur.size = cap * 1 ∧ cur.toList.take (l.length * 1) = l.map fun x => Value.int .u8 x.toNat := by
    rcases hown.2 with ⟨_, hz⟩ | ⟨g, cap, cur, hv, r⟩
    · exact absurd hz hl0
    · exact ⟨g, cap, cur, hv, r⟩
  have c1 : w.drew.cell? ⟨b, 1, none⟩ = some (.slice (some ⟨g, 0, none⟩) l.length cap) := by
    have : w.drew.heap[b]? = some (.cells #[p, .slice (some ⟨g, 0, none⟩) l.length cap] 70 (0, 0)) := hbk
    simp [World.cell?, this]
  have hSD : (Builtin.unsafeSliceData_ #[68] 91 #[.slice (some ⟨g, 0, none⟩) l.length cap]).run Tryd.prog w.drew = .ok (.pointer (some ⟨g, 0, none⟩)) w.drew :=
    Lib.run_unsafeSliceData_row _ _ _ _ _ _ (by omega)
  have hUS : (Builtin.unsafeString_ #[91, 3] 9 #[.pointer (some ⟨g, 0, none⟩), .int .i64 l.length]).run Tryd.prog w.drew = .ok (.string ⟨l.toArray⟩) (w.drew.freeze ⟨g, 0, none⟩ l.length) := by
    refine Lib.run_unsafeString_row w.drew 91 3 9 5 Tryd.underlying91 cellsB g cur.size (by have hg' : w.drew.heap[g]? = some (.cells cur 5 (0, 0)) := hg; simp [World.shape?, hg']) l h0 (by omega) (by unfold maxLen at hcm; omega) ?_
    intro j x hx
    exact hown.cells (g := g) rfl j (.int .u8 x.toNat) (by simp [hx])
  go_enter Tryd.func60, Tryd.ntmps60
  go_wp2
  go_region
  all_goals (go_wp2; go_ret; exact ⟨rfl, fr_freeze g _ (by rw [hf]; simp [Value.ownBlock])⟩)

end Go.Proofs.YtdbkjmigdabifaaDoor
