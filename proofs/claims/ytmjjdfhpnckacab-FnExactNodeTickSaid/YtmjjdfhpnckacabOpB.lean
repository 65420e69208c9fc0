/-
  Operations on memory: boxes, loads out of boxes.
  Conditions: the table of types says what the program's says.
-/
import Derived.Test.YtmjjdfhpnckacabOpA
namespace Go.Proofs.Ytmjjdfhpnckacab
set_option linter.unusedVariables false
section
variable {P : Program} {E : Env} {N : Nat} {w0 : World} {X F : List Nat} {S : St} {β : Nat → GV} {ϕ : Nat → List Nat} {a : Act} {w w' : World} {o : Oper} {R : RR} {A : Hp} {B : Nat}

def gv (v : Value) : GV := ⟨v, [], []⟩

theorem zeroSVs_map (ts : List PTy) : zeroSVs ts = ts.map zeroSV := by
  induction ts with
  | nil => rfl
  | cons t ts ih => simp [zeroSVs, ih]
theorem zeroLfs_map (ts : List PTy) : zeroLfs ts = ts.map zeroLf := by
  induction ts with
  | nil => rfl
  | cons t ts ih => simp [zeroLfs, ih]

/-- A new empty list. -/
theorem add_empty {n : Nat} {T : PTy} {a : Option Addr} (hp : Holds B X F A β ϕ w) (hb : Bd n β A) :
    Holds B X F ((n, .arr .dp T [] .no) :: A) (upd β n (gv (.slice a 0 0))) (upd ϕ n []) w ∧ Bd (n + 1) (upd β n (gv (.slice a 0 0))) ((n, .arr .dp T [] .no) :: A) := by
  refine ⟨hp.add hb rfl (.inl ⟨rfl, rfl, a, rfl⟩) (by simp [owned]) (by simp) (by simp [ndOk]) ?_ (by simp) trivial (by simp [roots]) (by simp [roots]), hb_add hb trivial⟩
  intro i hl hi hd b hb' hm
  simp [owned] at hm

theorem fixL_sound : ∀ (ts : List PTy) (xs : List SV) (n : Nat) (A : Hp) (β : Nat → GV) (ϕ : Nat → List Nat), Holds B X F A β ϕ w → Bd n β A → SV.lts n xs → SV.oks β xs →
    ∃ β' ϕ', Holds B X F ((fixL n ts xs).2.1 ++ A) β' ϕ' w ∧ Bd (fixL n ts xs).2.2 β' ((fixL n ts xs).2.1 ++ A) ∧ (∀ k, k < n → β' k = β k) ∧ (∀ k, k < n → ϕ' k = ϕ k) ∧
      SV.vals β' (fixL n ts xs).1 = SV.vals β xs ∧ SV.lts (fixL n ts xs).2.2 (fixL n ts xs).1 ∧ SV.oks β' (fixL n ts xs).1 ∧ n ≤ (fixL n ts xs).2.2 ∧ (fixL n ts xs).1.length = xs.length ∧ (∀ k, k < n → lk ((fixL n ts xs).2.1 ++ A) k = lk A k)
  | [], xs, n, A, β, ϕ, h, hb, hl, hk => by
    have : fixL n [] xs = (xs, [], n) := by cases xs <;> rfl
    rw [this]
    exact ⟨β, ϕ, h, hb, fun _ _ => rfl, fun _ _ => rfl, rfl, hl, hk, Nat.le_refl _, rfl, fun _ _ => rfl⟩
  | t :: ts, [], n, A, β, ϕ, h, hb, hl, hk => by
    have : fixL n (t :: ts) [] = ([], [], n) := by cases t <;> rfl
    rw [this]
    exact ⟨β, ϕ, h, hb, fun _ _ => rfl, fun _ _ => rfl, rfl, hl, hk, Nat.le_refl _, rfl, fun _ _ => rfl⟩
  | t :: ts, x :: xs, n, A, β, ϕ, h, hb, hl, hk => by
    by_cases hc : ∃ T, t = .list T ∧ x = .nils
    · obtain ⟨T, rfl, rfl⟩ := hc
      obtain ⟨h1, h2⟩ := add_empty (T := T) (a := none) h hb
      have hl' := SV.lts_mono (Nat.le_succ n) xs hl.2
      have hcg : ∀ k, k < n → upd β n (gv (.slice none 0 0)) k = β k := fun k hk => upd_lt _ _ _ hk
      obtain ⟨β', ϕ', a1, a2, a3, a4, a5, a6, a7, a8, a9, a10⟩ := fixL_sound ts xs (n + 1) _ _ _ h1 h2 hl' (SV.oks_congr hcg xs hl.2 hk.2)
      refine ⟨β', ϕ', ?_, ?_, fun k hk => (a3 k (by omega)).trans (hcg k hk), fun k hk => (a4 k (by omega)).trans (upd_lt _ _ _ hk), ?_, ?_, ?_, ?_, ?_, ?_⟩
      · simpa [fixL, List.append_assoc] using a1
      · simpa [fixL, List.append_assoc] using a2
      · simp only [fixL, SV.vals, a5, SV.val]
        rw [a3 n (by omega), upd_eq, SV.vals_congr hcg xs hl.2]; rfl
      · exact ⟨by simp only [SV.lt, fixL]; omega, a6⟩
      · exact ⟨trivial, a7⟩
      · simp only [fixL]; omega
      · simp [fixL, a9]
      · intro k hk
        have := a10 k (by omega)
        simp only [lk, if_neg (show ¬ n = k by omega)] at this
        rw [← this]
        simp [fixL, List.append_assoc]
    · have hf : fixL n (t :: ts) (x :: xs) = (x :: (fixL n ts xs).1, (fixL n ts xs).2.1, (fixL n ts xs).2.2) := by
        cases t <;> (try rfl)
        cases x <;> (try rfl)
        exact absurd ⟨_, rfl, rfl⟩ hc
      obtain ⟨β', ϕ', a1, a2, a3, a4, a5, a6, a7, a8, a9, a10⟩ := fixL_sound ts xs n A β ϕ h hb hl.2 hk.2
      rw [hf]
      refine ⟨β', ϕ', a1, a2, a3, a4, ?_, ⟨SV.lt_mono a8 x hl.1, a6⟩, ⟨SV.ok_congr a3 x hl.1 hk.1, a7⟩, a8, by simp [a9], a10⟩
      simp only [SV.vals, a5, SV.val_congr a3 x hl.1]

theorem alloc_old (w : World) (o : Obj) {b : Nat} (h : b < w.heap.size) : (w.alloc o).heap[b]? = w.heap[b]? := heap_alloc_old w o b h

theorem Fr.alloc {w0 : World} {X : List Nat} (h : Fr w0 X w) (o : Obj) : Fr w0 X (w.alloc o) :=
  ⟨h.os, h.tape, h.output, by have := h.size; show _ ≤ (w.heap.push o).size; simp; omega, fun b hb hn => (alloc_old w o (Nat.lt_of_lt_of_le hb h.size)).trans (h.block b hb hn)⟩

/-- A handle on a new block alone. -/
theorem Holds.addNew (hp : Holds w0.heap.size X F A β ϕ w) {n : Nat} {hl0 : HL} {g : GV} {f : List Nat} (hb : Bd n β A) (hw : Fr w0 X w) (hf : ∀ b, b < w.heap.size → w'.heap[b]? = w.heap[b]?) (hv : g.v.oneCell' = true)
    (hs : HLSat w' g (upd β n g) f hl0) (hnew : ∀ b ∈ f, w.heap.size ≤ b) (hn : ndOk f hl0) (hr : roots hl0 = []) (hp0 : pathOk A (upd β n g) w' g hl0) :
    Holds w0.heap.size X F ((n, hl0) :: A) (upd β n g) (upd ϕ n f) w' := by
  have h1 := hp.grow hf
  refine h1.add hb hv hs ?_ ?_ hn ?_ ?_ hp0 (by simp [hr]) (by simp [hr])
  · intro b hb'
    have := hnew b (owned_sub b hb')
    have := hw.size
    exact .inr (by omega)
  · intro _ b hb'
    have := hnew b hb'
    have := hw.size
    exact .inr (by omega)
  · intro i hl hi hd b hb' hm
    have h2 := hp.inb hi hd b hb'
    have h3 := hnew b (owned_sub b hm)
    omega
  · intro i hl hi _ b hb' hm
    by_cases hd : hl = .dead
    · subst hd; simp [owned] at hb'
    · have h2 := hp.inb hi hd b (owned_sub b hb')
      have h3 := hnew b hm
      omega

/-- A new box over the heap of new empty handles. -/
theorem box_sound {n : Nat} (hp : Holds w0.heap.size X F A β ϕ w) (hb : Bd n β A) (fr : Fr w0 X w) (t : Nat) (cs : List SV) (hl : SV.lts n cs) (hk : SV.oks β cs) :
    Holds w0.heap.size X F ((n, .box true t cs) :: A) (upd β n (gv (.pointer (some ⟨w.heap.size, 0, none⟩)))) (upd ϕ n [w.heap.size]) (w.alloc (.cells (SV.vals β cs).toArray t)) ∧
      Bd (n + 1) (upd β n (gv (.pointer (some ⟨w.heap.size, 0, none⟩)))) ((n, .box true t cs) :: A) := by
  have hcg : ∀ k, k < n → upd β n (gv (.pointer (some ⟨w.heap.size, 0, none⟩))) k = β k := fun k hk => upd_lt _ _ _ hk
  refine ⟨hp.addNew hb fr (fun b hb => alloc_old w _ hb) rfl ?_ (by simp) trivial rfl trivial, hb_add hb ⟨SV.lts_mono (Nat.le_succ n) cs hl, SV.oks_congr hcg cs hl hk⟩⟩
  exact ⟨w.heap.size, t, rfl, rfl, by rw [SV.vals_congr hcg cs hl]; simpa [gv] using heap_alloc_new w _⟩

theorem s_box {t : TypeId} {x : Operand} (hT : EnvTy P E) (ho : o.op = .box t x) (hR : opRes E S true o = some R) (sat : Sat N w0 X F S β ϕ a w) (hob : R.ob) : Snd P w0 X F S β ϕ o a w R := by
  unfold opRes at hR
  rw [ho] at hR
  simp only at hR
  split at hR
  · rename_i g' v ti hx hti
    cases hR
    obtain ⟨_, q2, q3⟩ := hob
    obtain ⟨x1, x2⟩ := ev_sound hx sat
    replace x1 := x1 q2
    obtain ⟨x3, x4⟩ := x2 q2
    have c1 : SV.lts S.n v.cells := by cases v <;> first | exact x1 | exact ⟨x1, trivial⟩
    have c2 : SV.oks β v.cells := by cases v <;> first | exact x4 | exact ⟨x4, trivial⟩
    obtain ⟨β', ϕ', a1, a2, a3, a4, a5, a6, a7, a8, a9, a10⟩ := fixL_sound ti.leaves v.cells S.n S.A β ϕ sat.hp sat.hb c1 c2
    obtain ⟨b1, b2⟩ := box_sound a1 a2 sat.fr t _ a6 a7
    refine ⟨trivial, _, _, _, _, .inl ?_, ⟨fun _ => rfl, ?_, b1, b2, ?_, ?_, ?_, sat.fr.alloc _⟩, fun h => by simp [stillP, convP, ho] at h, fun _ => (Fr.refl _ _).alloc _⟩
    · have hc := val_cells sat.hp.pl v
      simp only [execOp, ho, Instr.box, newVar, newRow, Sem.run_bind, Sem.run_pure, run_newObj, Result.andThen_ok, x3, hc, a5, SV.val, upd_eq, gv]
      rfl
    · intro h hh
      rw [upd_lt _ _ _ (by omega)]; exact a3 h hh
    · show SV.lt _ (SV.ptr _ _)
      simp [SV.lt]
    · exact ⟨w.heap.size, 0, by rw [upd_eq]; rfl⟩
    · show S.n ≤ _ + 1
      omega
  · cases hR

theorem zero_vals {ts : List PTy} (β : Nat → GV) (h : ∀ t ∈ ts, t.leaves = [t]) (hp : ∀ t ∈ ts, ∀ f l, t ≠ .fn f l) : SV.vals β (ts.map zeroSV) = ts.map zeroV := by
  rw [SV.vals_map, List.map_map]
  apply List.map_congr_left
  intro t ht
  cases t <;> first | rfl | exact absurd rfl (hp _ ht _ _)

theorem zero_lts (n : Nat) (ts : List PTy) : SV.lts n (ts.map zeroSV) := by
  rw [SV.lts_iff]; intro x hx; simp at hx; obtain ⟨t, _, rfl⟩ := hx; cases t <;> trivial
theorem zero_oks (β : Nat → GV) (ts : List PTy) : SV.oks β (ts.map zeroSV) := by
  rw [SV.oks_iff]; intro x hx; simp at hx; obtain ⟨t, _, rfl⟩ := hx
  cases t with
  | int k => cases k <;> (show inR _ 0; decide)
  | str => exact Nat.zero_le _
  | _ => trivial

theorem run_zero {t : TypeId} {ti : TI} (h : TIok P t ti) (w : World) : ∃ z, (zeroValue t).run P w = .ok z w ∧ z.cells = (ti.leaves.map zeroV).toArray := by
  obtain ⟨i, hi, _, _, z, hz, hc⟩ := h.info
  exact ⟨z, by simp [zeroValue, typeInfo, hi, hz], hc⟩

theorem s_alloc {t : TypeId} (hT : EnvTy P E) (ho : o.op = .alloc t) (hR : opRes E S true o = some R) (sat : Sat N w0 X F S β ϕ a w) (hob : R.ob) : Snd P w0 X F S β ϕ o a w R := by
  unfold opRes at hR
  rw [ho] at hR
  simp only at hR
  split at hR
  · rename_i ti hti
    split at hR
    · cases hR
    · cases hR
      rw [zeroSVs_map] at hob ⊢
      obtain ⟨β', ϕ', a1, a2, a3, a4, a5, a6, a7, a8, a9, a10⟩ := fixL_sound ti.leaves (ti.leaves.map zeroSV) S.n S.A β ϕ sat.hp sat.hb (zero_lts _ _) (zero_oks _ _)
      obtain ⟨b1, b2⟩ := box_sound a1 a2 sat.fr t _ a6 a7
      refine ⟨trivial, _, _, _, _, .inl ?_, ⟨fun _ => rfl, ?_, b1, b2, ?_, ?_, ?_, sat.fr.alloc _⟩, fun h => by simp [stillP, convP, ho] at h, fun _ => (Fr.refl _ _).alloc _⟩
      · obtain ⟨z, hz, hc⟩ := run_zero (hT _ _ hti) w
        have hz2 : SV.vals β' (fixL S.n ti.leaves (ti.leaves.map zeroSV)).1 = ti.leaves.map zeroV := by
          rw [a5]; exact zero_vals β (hT _ _ hti).lf (hT _ _ hti).nf
        simp only [execOp, ho, Instr.alloc, newVar, newRow, Sem.run_bind, Sem.run_pure, run_newObj, Result.andThen_ok, hz, hc, hz2, SV.val, upd_eq, gv]
        rfl
      · intro h hh
        rw [upd_lt _ _ _ (by omega)]; exact a3 h hh
      · show SV.lt _ (SV.ptr _ _)
        simp [SV.lt]
      · exact ⟨w.heap.size, 0, by rw [upd_eq]; rfl⟩
      · show S.n ≤ _ + 1
        omega
  · cases hR

theorem vals_getElem? (β : Nat → GV) (xs : List SV) (i : Nat) : (SV.vals β xs)[i]? = (xs[i]?).map (SV.val β) := by
  rw [SV.vals_map, List.getElem?_map]

theorem addr_add (b off n : Nat) : (⟨b, off, none⟩ : Addr).add n = ⟨b, off + n, none⟩ := by
  unfold Addr.add; split <;> simp_all

theorem run_loadCells_row (b off n : Nat) (c : Array Value) (t : TypeId) (fr : Nat × Nat) (h : w.heap[b]? = some (.cells c t fr)) (hn : off + n ≤ c.size) :
    (loadCells ⟨b, off, none⟩ n).run P w = .ok ((c.toList.drop off).take n).toArray w := by
  have hl : ((c.toList.drop off).take n).length = n := by simp; omega
  have := run_loadCells_list (P := P) w ⟨b, off, none⟩ ((c.toList.drop off).take n) (fun j v hj => by
    rw [addr_add, cell_of_row w b _ c t fr h]
    rw [List.getElem?_take] at hj
    split at hj
    · simpa using hj
    · cases hj)
  rwa [hl] at this

theorem mid_take (l m r : List Value) {off n : Nat} (h : off + n ≤ m.length) : ((l ++ m ++ r).drop (l.length + off)).take n = (m.drop off).take n := by
  rw [List.append_assoc, ← List.drop_drop, List.drop_left, List.drop_append_of_le_length (by omega), List.take_append_of_le_length (by simp; omega)]

theorem s_loadBox {t : TypeId} {x : Operand} {g' : Bool} {h off : Nat} {ti : TI} {ow : Bool} {bt : Nat} {cs : List SV} (hT : EnvTy P E) (ho : o.op = .load t x) (hx : S.ev x = some (g', .ptr h off)) (hti : lk E.ty t = some ti)
    (hl : lk S.A h = some (.box ow bt cs)) (hlen : off + ti.sz ≤ cs.length) (sat : Sat N w0 X F S β ϕ a w) (hg : g' = true) :
    (ti.agg = true → (execOp a.eval o).run P w = .ok (.value (SV.val β (.agg ((cs.drop off).take ti.sz)))) w) ∧
    (ti.agg = false → ∀ v, cs[off]? = some v → (execOp a.eval o).run P w = .ok (.value (SV.val β v)) w) := by
  obtain ⟨x1, x2⟩ := ev_sound hx sat
  replace x1 := x1 hg
  obtain ⟨x3, b, oo, hb⟩ := x2 hg
  obtain ⟨b', bt', hb', hϕ, hold⟩ := sat.hp.sat _ _ hl
  rw [hb] at hb'
  simp only [Value.pointer.injEq, Option.some.injEq, Addr.mk.injEq, and_true] at hb'
  obtain ⟨rfl, rfl⟩ := hb'
  simp only [SV.val, hb] at x3
  have hag := run_isAgg (hT _ _ hti)
  have hsz := run_size (hT _ _ hti)
  have hcl : (SV.vals β cs).length = cs.length := by simp [SV.vals_map]
  refine ⟨fun hA => ?_, fun hA v hv => ?_⟩
  · have hlc := run_loadCells_row (P := P) b ((β h).pre.length + off) ti.sz _ bt' (0, 0) hold (by simp [hcl]; omega)
    rw [List.toList_toArray, mid_take _ _ _ (by rw [hcl]; exact hlen)] at hlc
    simp only [execOp, ho, Instr.loadAt, Instr.sureAddr, loadVar, Sem.run_bind, Sem.run_pure, Result.andThen_ok, x3, hag, hsz, hA, if_true, hlc, SV.val]
    simp [SV.vals_map]
  · have hc := cell_of_row w b ((β h).pre.length + off) _ bt' (0, 0) hold
    have hv2 : ((β h).pre ++ SV.vals β cs ++ (β h).post).toArray[(β h).pre.length + off]? = some (SV.val β v) := by
      have hlt : off < cs.length := (List.getElem?_eq_some_iff.1 hv).1
      simp only [List.getElem?_toArray]
      rw [List.append_assoc, List.getElem?_append_right (by omega), Nat.add_sub_cancel_left, List.getElem?_append_left (by rw [hcl]; exact hlt), vals_getElem?, hv]; rfl
    rw [hv2] at hc
    simp only [execOp, ho, Instr.loadAt, Instr.sureAddr, loadVar, Sem.run_bind, Sem.run_pure, Result.andThen_ok, x3, hag, hA, Bool.false_eq_true, if_false, run_load, hc]

end
end Go.Proofs.Ytmjjdfhpnckacab
