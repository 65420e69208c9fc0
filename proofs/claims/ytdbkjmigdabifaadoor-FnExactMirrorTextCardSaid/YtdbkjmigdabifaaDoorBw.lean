/-
  What the functions of strings.Builder do with a builder.
  Conditions: none.
-/
import Derived.Test.YtdbkjmigdabifaaDoorBa
import Derived.Test.YtdbkjmigdabifaaDoorChecked
namespace Go.Proofs.YtdbkjmigdabifaaDoor
open Go.Lib Go.RowKit
set_option linter.unusedVariables false

/-- A builder that has been used. -/
def BldU (T e b : Nat) (l : List UInt8) (w : World) (f : List Nat) : Prop :=
  ∃ v, w.heap[b]? = some (.cells #[.pointer (some ⟨b, 0, none⟩), v] T (0, 0)) ∧ w.ownsRow 0 e 1 v l.length (l.map fun x => Value.int .u8 x.toNat) ∧ v.ownBlock ≠ some b ∧ f = b :: v.ownBlock.toList

theorem BldU.at {T e b : Nat} {l : List UInt8} {w : World} {f : List Nat} (h : BldU T e b l w f) : BldAt T e b l w f := by
  obtain ⟨v, h1, h2, h3, h4⟩ := h
  exact ⟨_, v, .inr rfl, h1, h2, h3, h4⟩

theorem bldSz : (Tryd.prog.info? 70).map (·.size) = some 2 := by kernel_rfl
theorem liesB : liesAt Tryd.prog Tryd.prog.depth 70 (2 / Tryd.prog.cellsOf 70) 0 70 1 = true := by kernel_rfl
theorem infoB : (Tryd.prog.info? 5).map (fun i => (i.zero, i.size, i.bytes)) = some (some (.int .u8 0), 1, 1) := by kernel_rfl

set_option maxHeartbeats 1000000 in
set_option maxRecDepth 100000 in
theorem check_used (b : Nat) (w : World) (h0 : w.cell? ⟨b, 0, none⟩ = some (.pointer (some ⟨b, 0, none⟩))) :
    Calls Tryd.prog 77 #[.pointer (some ⟨b, 0, none⟩)] w fun e w' => e = .returned (.tuple #[]) ∧ w' = w := by
  obtain ⟨j, hj, _⟩ := Option.map_eq_some_iff.1 bldSz
  go_enter Tryd.func77, Tryd.ntmps77
  go_wp2
  rw [Lib.run_neq_ptr_same w _ Tryd.underlying67 hj]
  go_wp2
  go_end0
  exact ⟨rfl, rfl⟩

set_option maxHeartbeats 1000000 in
set_option maxRecDepth 100000 in
theorem check_fresh (b : Nat) (w : World) (h0 : w.cell? ⟨b, 0, none⟩ = some (.pointer none)) (hsh : w.shape? b = some (70, 2)) (hfz : w.frozen? ⟨b, 0, none⟩ = false) :
    Calls Tryd.prog 77 #[.pointer (some ⟨b, 0, none⟩)] w fun e w' => e = .returned (.tuple #[]) ∧ w' = w.setCell ⟨b, 0, none⟩ (.pointer (some ⟨b, 0, none⟩)) := by
  obtain ⟨j, hj, hjs⟩ := Option.map_eq_some_iff.1 bldSz
  go_enter Tryd.func77, Tryd.ntmps77
  go_wp2
  rw [Lib.run_to_unsafe w ⟨b, 0, none⟩ Tryd.underlying67 Tryd.underlying98 hj (by rw [hjs]; decide) hsh (Nat.zero_lt_succ 1)]
  simp only [Result.andThen]
  rw [Oper.upon_value]
  go_wp2
  rw [run_callFunc_extern Tryd.func93 (by kernel_rfl) (by kernel_rfl) (by kernel_rfl) (e := Extern.AbiNoEscape.same) (by kernel_rfl)]
  rw [Lib.run_noEscape]
  simp only [Result.andThen]
  rw [Oper.upon_value]
  go_wp2
  rw [Lib.run_from_unsafe w ⟨b, 0, none⟩ Tryd.underlying98 Tryd.underlying67 hj hsh liesB]
  simp only [Result.andThen]
  rw [Oper.upon_value]
  go_wp2
  go_end0
  exact ⟨rfl, rfl⟩

theorem bld_check (b : Nat) (l : List UInt8) (w : World) (f : List Nat) (h : BldAt 70 5 b l w f) :
    Calls Tryd.prog 77 #[.pointer (some ⟨b, 0, none⟩)] w fun e w' => e = .returned (.tuple #[]) ∧ BldU 70 5 b l w' f ∧ Fr w [b] w' := by
  obtain ⟨p, v, hp, hb, hown, hne, hf⟩ := h
  have hlt : b < w.heap.size := (Array.getElem?_eq_some_iff.1 hb).1
  rcases hp with rfl | rfl
  · refine (check_fresh b w (by simp [World.cell?, hb]) (by simp [World.shape?, hb]) (by simp [World.frozen?, hb])).mono ?_
    rintro e w' ⟨rfl, rfl⟩
    have hfr : Fr w [b] (w.setCell ⟨b, 0, none⟩ (.pointer (some ⟨b, 0, none⟩))) :=
      ⟨rfl, rfl, rfl, by simp [World.setCell], fun k hk hn => Below.heap_setCell _ _ _ _ (fun e => hn (by simp [e]))⟩
    refine ⟨rfl, ⟨v, ?_, ?_, hne, hf⟩, hfr⟩
    · simp [World.setCell, Array.getElem?_modify, hb]
    · exact hown.kept (row := some b) ⟨rfl, rfl, rfl, by simp [World.setCell], fun k _ hk => Below.heap_setCell _ _ _ _ (fun e => hk (by simp [e]))⟩ (Or.inr hne)
  · refine (check_used b w (by simp [World.cell?, hb])).mono ?_
    rintro e w' ⟨rfl, rfl⟩
    exact ⟨rfl, ⟨v, hb, hown, hne, hf⟩, Fr.refl _ _⟩

theorem grown_fr {w w' : World} {row : Option Nat} (h : w.grownBy w' row) : Fr w row.toList w' :=
  ⟨h.os, h.tape, h.output, h.size, fun k hk hn => h.block k hk (fun e => hn (by rw [← e]; simp))⟩

/-- The new row is put into the builder. -/
theorem bld_put {T b : Nat} {v v' : Value} {l' : List UInt8} {w w1 w2 : World} {f : List Nat} (hT : T ≠ 5) (h1 : Fr w [b] w1) (hbw : b < w.heap.size) (hb : w1.heap[b]? = some (.cells #[.pointer (some ⟨b, 0, none⟩), v] T (0, 0))) (hne : v.ownBlock ≠ some b) (hf : f = b :: v.ownBlock.toList)
    (hown : w2.ownsRow 0 5 1 v' l'.length (l'.map fun x => Value.int .u8 x.toNat)) (hg : w1.grownBy w2 v.ownBlock) (ho : v'.ownBlock = v.ownBlock ∨ ∃ k, v'.ownBlock = some k ∧ w.heap.size ≤ k) (hv : ∀ k, v.ownBlock = some k → k < w.heap.size) :
    ∃ f', BldAt T 5 b l' (w2.setCell ⟨b, 1, none⟩ v') f' ∧ Fr w f (w2.setCell ⟨b, 1, none⟩ v') ∧ ∀ x ∈ f', x ∈ f ∨ w.heap.size ≤ x := by
  have hb2 : w2.heap[b]? = some (.cells #[.pointer (some ⟨b, 0, none⟩), v] T (0, 0)) := by
    rw [hg.block b (Array.getElem?_eq_some_iff.1 hb).1 (fun e => hne e.symm)]; exact hb
  have hne' := ownBlock_ne hown hb2 hT
  have hfr2 : Fr w2 [b] (w2.setCell ⟨b, 1, none⟩ v') := ⟨rfl, rfl, rfl, by simp [World.setCell], fun k hk hn => Below.heap_setCell _ _ _ _ (fun e => hn (by simp [e]))⟩
  refine ⟨b :: v'.ownBlock.toList, ⟨_, v', .inr rfl, ?_, ?_, hne', rfl⟩, ?_, ?_⟩
  · simp [World.setCell, Array.getElem?_modify, hb2]
  · exact hown.kept (row := some b) ⟨rfl, rfl, rfl, by simp [World.setCell], fun k _ hk => Below.heap_setCell _ _ _ _ (fun e => hk (by simp [e]))⟩ (Or.inr hne')
  · subst hf
    refine ((h1.trans (grown_fr hg) (Z := b :: v.ownBlock.toList) (fun x hx => by simp at hx; simp [hx]) (fun x hx => .inl (by simp at hx ⊢; exact .inr hx))).trans hfr2 (fun x hx => hx) (fun x hx => .inl (by simp at hx; simp [hx])))
  · intro x hx
    subst hf
    simp only [List.mem_cons, Option.mem_toList] at hx ⊢
    rcases hx with rfl | hx
    · exact .inl (.inl rfl)
    · rcases ho with ho | ⟨k, ho, hk⟩
      · rw [ho] at hx; exact .inl (.inr hx)
      · rw [ho] at hx; cases hx; exact .inr hk

end Go.Proofs.YtdbkjmigdabifaaDoor
