/-
  The operation 'store'.
  Conditions: the table of types says what the program's says.
-/
import Derived.Test.YtmjjdfhpnckacabTake
namespace Go.Proofs.Ytmjjdfhpnckacab
set_option linter.unusedVariables false
section
variable {P : Program} {E : Env} {N : Nat} {w0 : World} {X F : List Nat} {S : St} {β : Nat → GV} {ϕ : Nat → List Nat} {a : Act} {w w' : World} {o : Oper} {R : RR} {A A' : Hp} {B : Nat}

/-- Cells stored one by one into a block that may be written. -/
theorem run_storeCells_gen (b t : Nat) (fr : Nat × Nat) : ∀ (vs : List Value) (off i : Nat) (c : Array Value) (w : World), w.heap[b]? = some (.cells c t fr) → off + i + vs.length ≤ c.size →
    (∀ j, j < c.size → ¬ (fr.1 ≤ j ∧ j < fr.2)) → (∀ v ∈ vs, v.oneCell' = true) →
    ∃ w', (storeCells ⟨b, off, none⟩ vs i).run P w = .ok () w' ∧ w'.heap[b]? = some (.cells (c.toList.take (off + i) ++ vs ++ c.toList.drop (off + i + vs.length)).toArray t fr) ∧
      (∀ k, k ≠ b → w'.heap[k]? = w.heap[k]?) ∧ w'.os = w.os ∧ w'.tape = w.tape ∧ w'.output = w.output ∧ w'.heap.size = w.heap.size
  | [], off, i, c, w, h, hl, hf, h1 => by
    refine ⟨w, rfl, ?_, fun _ _ => rfl, rfl, rfl, rfl, rfl⟩
    rw [h]; simp
  | v :: vs, off, i, c, w, h, hl, hf, h1 => by
    simp only [List.length_cons] at hl
    have hlt : off + i < c.size := by omega
    have hcell : w.cell? ⟨b, off + i, none⟩ = some c[off + i] := by rw [cell_of_row w b _ c t fr h]; simp [hlt]
    have hfz : w.frozen? ⟨b, off + i, none⟩ = false := by
      have := hf (off + i) hlt
      simp only [World.frozen?, h]
      simp only [Bool.and_eq_false_iff, decide_eq_false_iff_not]
      omega
    have hrun : (store ((⟨b, off, none⟩ : Addr).add i) v).run P w = .ok () (w.setCell ⟨b, off + i, none⟩ v) := by
      rw [addr_add, run_store P w _ v _ (h1 v (by simp)), hcell, hfz]; simp
    have hheap : (w.setCell ⟨b, off + i, none⟩ v).heap[b]? = some (.cells (c.setIfInBounds (off + i) v) t fr) := by
      simp [World.setCell, Array.getElem?_modify, h]
    have hoth : ∀ k, k ≠ b → (w.setCell ⟨b, off + i, none⟩ v).heap[k]? = w.heap[k]? := by
      intro k hk; simp [World.setCell, Array.getElem?_modify, Ne.symm hk]
    obtain ⟨w', r1, r2, r3, r4, r5, r6, r7⟩ := run_storeCells_gen b t fr vs off (i + 1) (c.setIfInBounds (off + i) v) _ hheap (by simp; omega) (by simpa using hf) (fun u hu => h1 u (by simp [hu]))
    refine ⟨w', ?_, ?_, fun k hk => (r3 k hk).trans (hoth k hk), r4, r5, r6, ?_⟩
    · simp only [storeCells, Sem.run_bind, hrun, Result.andThen_ok, r1]
    · rw [r2]
      congr 3
      have e1 : (c.setIfInBounds (off + i) v).toList = c.toList.set (off + i) v := by simp
      rw [e1]
      have e2 : (c.toList.set (off + i) v).take (off + (i + 1)) = c.toList.take (off + i) ++ [v] := by
        rw [show off + (i + 1) = (off + i) + 1 by omega, List.take_succ_eq_append_getElem (by simpa using hlt)]
        simp [List.take_set_of_le]
      have e3 : (c.toList.set (off + i) v).drop (off + (i + 1) + vs.length) = c.toList.drop (off + i + (v :: vs).length) := by
        rw [List.drop_set_of_lt (by omega)]
        congr 1; simp; omega
      rw [e2, e3]; simp
    · rw [r7]; simp [World.setCell]

theorem storeEl_flat {T : PTy} {es : List PV} {i off : Nat} {ps : List PV} (hS : ∀ e ∈ es, Shp T e) (hi : i < es.length) (hle : off + ps.length ≤ T.wd) (hps : ∀ p ∈ ps, ∀ qs, p ≠ .agg qs) (hpos : 0 < ps.length) :
    flatP (storeEl T es i off ps) = (flatP (es.take i) ++ (es.getD i PV.d).leaves.take off) ++ (ps ++ ((es.getD i PV.d).leaves.drop (off + ps.length) ++ flatP (es.drop (i + 1)))) ∧
    (∀ e ∈ storeEl T es i off ps, Shp T e) ∧ (storeEl T es i off ps).length = es.length := by
  have hs := hS _ (getD_mem hi)
  have key : ∃ e', storeEl T es i off ps = es.set i e' ∧ Shp T e' ∧ e'.leaves = (es.getD i PV.d).leaves.take off ++ ps ++ (es.getD i PV.d).leaves.drop (off + ps.length) := by
    have hel := leaves_len hs
    cases T with
    | agg ts =>
      obtain ⟨qs, hq, hql⟩ := hs
      simp only [PTy.wd, PTy.leaves] at hle
      have e1 : etaL 0 (ts.take off) qs = qs.take off := by
        rw [etaL_eq (by simp; omega), List.length_take, Nat.min_eq_left (by omega), List.drop_zero]
      have e2 : etaL (off + ps.length) (ts.drop (off + ps.length)) qs = qs.drop (off + ps.length) := by
        rw [etaL_eq (by simp; omega), List.length_drop, List.take_of_length_le (by simp; omega)]
      refine ⟨.agg (qs.take off ++ ps ++ qs.drop (off + ps.length)), ?_, ⟨_, rfl, ?_⟩, ?_⟩
      · simp only [storeEl, hq, PV.A, e1, e2]
      · simp only [List.length_append, List.length_take, List.length_drop, hql]; omega
      · rw [hq]; rfl
    | _ =>
      simp only [PTy.wd, PTy.leaves, List.length_singleton] at hle
      obtain ⟨p, rfl⟩ := List.length_eq_one_iff.1 (show ps.length = 1 by omega)
      have hoff : off = 0 := by simp at hle; exact hle
      subst hoff
      have h0 := hps p (by simp)
      refine ⟨p, rfl, by simpa [Shp] using h0, ?_⟩
      have h1 : ∀ qs, es.getD i PV.d ≠ .agg qs := by simpa only [Shp] using hs
      rw [leaf_leaves h0, leaf_leaves h1]; rfl
  obtain ⟨e', he, hse, hle'⟩ := key
  have hset : es.set i e' = es.take i ++ e' :: es.drop (i + 1) := by
    rw [List.set_eq_take_append_cons_drop, if_pos hi]
  rw [he]
  refine ⟨?_, ?_, by simp⟩
  · rw [hset]
    have : flatP (es.take i ++ e' :: es.drop (i + 1)) = flatP (es.take i) ++ (e'.leaves ++ flatP (es.drop (i + 1))) := by simp [flatP]
    rw [this, hle']; simp [List.append_assoc]
  · intro e hm
    rcases List.mem_or_eq_of_mem_set hm with h | h
    · exact hS e h
    · rw [h]; exact hse

theorem flatT_split {T : PTy} {n i off sz : Nat} (hi : i < n) (hle : off + sz ≤ T.wd) : flatT T n = (flatT T i ++ T.leaves.take off) ++ (leafAt T off sz ++ (T.leaves.drop (off + sz) ++ flatT T (n - (i + 1)))) := by
  have e1 : n = i + (1 + (n - (i + 1))) := by omega
  rw [e1, flatT_add, flatT_add, flatT_one]
  have e2 : T.leaves = T.leaves.take off ++ ((T.leaves.drop off).take sz ++ T.leaves.drop (off + sz)) := by
    rw [← List.drop_drop, List.take_append_drop, List.take_append_drop]
  have e3 : i + (1 + (n - (i + 1))) - (i + 1) = n - (i + 1) := by omega
  rw [e3]
  conv => lhs; rw [e2]
  simp [leafAt, List.append_assoc]

theorem Fr.step {w0 : World} {X : List Nat} (h : Fr w0 X w) (os : w'.os = w.os) (tape : w'.tape = w.tape) (output : w'.output = w.output) (size : w.heap.size ≤ w'.heap.size) {b : Nat} (hb : b ∈ X ∨ w0.heap.size ≤ b)
    (hf : ∀ k, k < w.heap.size → k ≠ b → w'.heap[k]? = w.heap[k]?) : Fr w0 X w' :=
  ⟨os.trans h.os, tape.trans h.tape, output.trans h.output, Nat.le_trans h.size size, fun k hk hn => by
    rw [hf k (Nat.lt_of_lt_of_le hk h.size) (fun e => by subst e; rcases hb with hb | hb; exact hn hb; omega)]
    exact h.block k hk hn⟩

theorem oks_cells {x : SV} (h : SV.ok β x) : SV.oks β x.cells := by
  cases x <;> first | exact h | exact ⟨h, trivial⟩
theorem lts_cells {n : Nat} {x : SV} (h : SV.lt n x) : SV.lts n x.cells := by
  cases x <;> first | exact h | exact ⟨h, trivial⟩

theorem leafAll_iff {xs : List SV} : leafAll xs = true ↔ ∀ x ∈ xs, x.leafB = true := by
  induction xs with
  | nil => simp [leafAll]
  | cons x xs ih => simp [leafAll, ih]

theorem vals_one (pl : ∀ h, (β h).v.oneCell' = true) {xs : List SV} (h : leafAll xs = true) : ∀ v ∈ SV.vals β xs, v.oneCell' = true := by
  intro v hv
  rw [SV.vals_map, List.mem_map] at hv
  obtain ⟨x, hx, rfl⟩ := hv
  exact val_one pl x (leafAll_iff.1 h x hx)

theorem splice_take (v1 v2 v3 d vs : List Value) (h : vs.length = v2.length) :
    (((v1 ++ v2 ++ v3) ++ d).take v1.length ++ vs ++ ((v1 ++ v2 ++ v3) ++ d).drop (v1.length + vs.length)).toArray.toList.take (v1 ++ v2 ++ v3).length = v1 ++ (vs ++ v3) := by
  have h1 : ((v1 ++ v2 ++ v3) ++ d).take v1.length = v1 := by simp
  have h2 : ((v1 ++ v2 ++ v3) ++ d).drop (v1.length + vs.length) = v3 ++ d := by
    rw [h, show v1 ++ v2 ++ v3 ++ d = (v1 ++ v2) ++ (v3 ++ d) by simp, ← List.length_append]
    exact List.drop_left
  rw [h1, h2]
  have h3 : (v1 ++ v2 ++ v3).length = (v1 ++ (vs ++ v3)).length := by simp only [List.length_append]; omega
  rw [h3, show v1 ++ vs ++ (v3 ++ d) = (v1 ++ (vs ++ v3)) ++ d by simp]
  exact List.take_left


/-- The cells that a store into an element leaves. -/
theorem run_storeEl {t : TypeId} {x y : Operand} {ti : TI} {v : SV} {b t' at_ : Nat} {c : Array Value} {fr : Nat × Nat} (hTk : TIok P t ti) (ho : o.op = .store t x y) (x3 : a.eval x = .pointer (some ⟨b, at_, none⟩)) (y3 : a.eval y = SV.val β v) (pl : ∀ h, (β h).v.oneCell' = true)
    (hcl : v.cells.length = ti.sz) (hlf : leafAll v.cells = true) (hblk : w.heap[b]? = some (.cells c t' fr)) (hfit : at_ + ti.sz ≤ c.size) (hfz : ∀ i, i < c.size → ¬ (fr.1 ≤ i ∧ i < fr.2)) :
    ∃ w', (execOp a.eval o).run P w = .ok .skip w' ∧ w'.heap[b]? = some (.cells (c.toList.take at_ ++ SV.vals β v.cells ++ c.toList.drop (at_ + ti.sz)).toArray t' fr) ∧
      (∀ k, k ≠ b → w'.heap[k]? = w.heap[k]?) ∧ w'.os = w.os ∧ w'.tape = w.tape ∧ w'.output = w.output ∧ w'.heap.size = w.heap.size := by
  have hvl : (SV.vals β v.cells).length = ti.sz := by simp [SV.vals_map, hcl]
  obtain ⟨w', r1, r2, r3, r4, r5, r6, r7⟩ := run_storeCells_gen (P := P) b t' fr (SV.vals β v.cells) at_ 0 c w hblk (by omega) hfz (vals_one pl hlf)
  refine ⟨w', ?_, ?_, r3, r4, r5, r6, r7⟩
  · have hsz := run_size hTk w
    have hcl2 := val_cells pl v
    simp only [execOp, ho, Instr.storeAt, Instr.sureAddr, storeVar, Sem.run_bind, Sem.run_pure, Result.andThen_ok, x3, y3, hcl2, hsz]
    simp [hvl, r1]
  · rw [r2, hvl]; rfl

theorem Fr.store {b : Nat} (h : Fr w0 X w) (os : w'.os = w.os) (tape : w'.tape = w.tape) (output : w'.output = w.output) (size : w'.heap.size = w.heap.size) (hb : b ∈ X ∨ w0.heap.size ≤ b) (hf : ∀ k, k ≠ b → w'.heap[k]? = w.heap[k]?) : Fr w0 X w' :=
  h.step os tape output (Nat.le_of_eq size.symm) hb fun k _ hk => hf k hk

theorem box_mid (l m r vs : List Value) {off : Nat} (h : off + vs.length ≤ m.length) : (l ++ m ++ r).take (l.length + off) ++ vs ++ (l ++ m ++ r).drop (l.length + off + vs.length) = l ++ (m.take off ++ vs ++ m.drop (off + vs.length)) ++ r := by
  have e1 : (l ++ m ++ r).take (l.length + off) = l ++ m.take off := by
    rw [List.append_assoc, List.take_append, List.take_of_length_le (by omega), Nat.add_sub_cancel_left, List.take_append_of_le_length (by omega)]
  have e2 : (l ++ m ++ r).drop (l.length + off + vs.length) = m.drop (off + vs.length) ++ r := by
    rw [List.append_assoc, Nat.add_assoc, ← List.drop_drop, List.drop_left, List.drop_append_of_le_length (by omega)]
  rw [e1, e2]; simp [List.append_assoc]

/-- A box' contents are changed. -/
theorem Holds.setBox (h : Holds B X F A β ϕ w) {n i t : Nat} {cs cs' : List SV} (hb : Bd n β A) (hi : lk A i = some (.box true t cs)) (hcs : SV.lts n cs' ∧ SV.oks β cs')
    (hw : HLSat w' (β i) β (ϕ i) (.box true t cs')) (hf : ∀ k, k ∉ ϕ i → w'.heap[k]? = w.heap[k]?) : Holds B X F (set1 A i (.box true t cs')) β ϕ w' ∧ Bd n β (set1 A i (.box true t cs')) := by
  have h1 := h.redo (A' := set1 (strike [i] A) i (.box true t cs')) (f := ϕ i) (hl0 := .box true t cs') (fun j => lk_set1' _ _ _) hi hw (fun b hb' => .inl (by simpa [owned] using hb')) (fun k _ hk => hf k (by simpa [owned] using hk)) trivial (by simp) (by simp [roots]) (by simp) (fun _ => trivial) (fun o t cs _ => ⟨_, _, _, rfl⟩)
  have hid : upd ϕ i (ϕ i) = ϕ := by funext k; unfold upd; split <;> simp_all
  rw [hid] at h1
  have hlk : ∀ j, lk (set1 (strike [i] A) i (.box true t cs')) j = lk (set1 A i (.box true t cs')) j := by
    intro j
    rw [lk_set1', lk_set1']
    split
    · rfl
    · rename_i hne
      cases hj : lk A j with
      | none => rw [lk_strike, hj]; rfl
      | some hl =>
        refine strike_live hj (by simpa using hne) fun r hr hm => ?_
        simp only [List.mem_singleton] at hm
        subst hm
        exact h.rt j hl hj _ hr _ _ _ hi
  refine ⟨⟨h1.pl, ?_, ?_, ?_, ?_, ?_, ?_, ?_⟩, bd_put hb (fun j => lk_set1' _ _ _) (hb _ _ hi).1 hcs⟩
  · intro j hl hj; exact h1.sat j hl (by rw [hlk]; exact hj)
  · intro j hl hj; exact h1.own j hl (by rw [hlk]; exact hj)
  · intro j hl hj; exact h1.all j hl (by rw [hlk]; exact hj)
  · intro j hl hj; exact h1.nd j hl (by rw [hlk]; exact hj)
  · intro j k hl hl' hj hk; exact h1.dj j k hl hl' (by rw [hlk]; exact hj) (by rw [hlk]; exact hk)
  · intro j hl hj
    have := h1.pt j hl (by rw [hlk]; exact hj)
    cases hl with
    | arr o T es p =>
      cases o <;> (try trivial)
      exact PthOk.congr this fun r _ => ⟨(hlk r).symm, rfl⟩
    | _ => trivial
  · intro j hl hj r hr o t cs hc; exact h1.rt j hl (by rw [hlk]; exact hj) r hr o t cs (by rw [hlk]; exact hc)

theorem s_store {t : TypeId} {x y : Operand} (hT : EnvTy P E) (ho : o.op = .store t x y) (hR : opRes E S true o = some R) (sat : Sat N w0 X F S β ϕ a w) (hob : R.ob) : Snd P w0 X F S β ϕ o a w R := by
  unfold opRes at hR
  rw [ho] at hR
  simp only at hR
  split at hR
  · rename_i g' h off g'' v ti hx hy hti
    split at hR
    · rename_i bt cs hl
      split at hR
      · rename_i hlen
        cases hR
        obtain ⟨_, q2, q3, q4, q5, hd⟩ := hob
        obtain ⟨x1, x2⟩ := ev_sound hx sat
        replace x1 := x1 q2
        obtain ⟨x3, b, oo, hb⟩ := x2 q2
        obtain ⟨y1, y2⟩ := ev_sound hy sat
        replace y1 := y1 q3
        obtain ⟨y3, y4⟩ := y2 q3
        obtain ⟨b', bt', hb', hϕ, hold⟩ := sat.hp.sat _ _ hl
        rw [hb] at hb'
        simp only [Value.pointer.injEq, Option.some.injEq, Addr.mk.injEq, and_true] at hb'
        obtain ⟨rfl, rfl⟩ := hb'
        simp only [SV.val, hb] at x3
        obtain ⟨hlt, hlo⟩ := sat.hb _ _ hl
        obtain ⟨β', ϕ', a1, a2, a3, a4, a5, a6, a7, a8, a9, a10⟩ := fixL_sound ti.leaves v.cells S.n S.A β ϕ sat.hp sat.hb (lts_cells y1) (oks_cells y4)
        have hTk := hT _ _ hti
        have hcs : (SV.vals β cs).length = cs.length := by simp [SV.vals_map]
        have hvl : (SV.vals β v.cells).length = ti.sz := by simp [SV.vals_map, q4]
        obtain ⟨w', r1, r2, r3, r4, r5, r6, r7⟩ := run_storeEl (P := P) hTk ho x3 y3 sat.hp.pl q4 q5 hold (by simp [hcs]; omega) (by simp)
        have hl1 : lk ((fixL S.n ti.leaves v.cells).2.1 ++ S.A) h = some (.box true bt cs) := by rw [a10 h hlt]; exact hl
        have hcs' : SV.vals β' cs = SV.vals β cs := SV.vals_congr a3 cs hlo.1
        have hnew : SV.vals β' (cs.take off ++ (fixL S.n ti.leaves v.cells).1 ++ cs.drop (off + ti.sz)) = (SV.vals β cs).take off ++ SV.vals β v.cells ++ (SV.vals β cs).drop (off + ti.sz) := by
          rw [← hcs', ← a5]; simp [SV.vals_map, List.map_take, List.map_drop]
        have hb1 : b ∈ X ∨ w0.heap.size ≤ b := sat.hp.own _ _ hl b (by simp [owned, hϕ])
        have hlts : SV.lts (fixL S.n ti.leaves v.cells).2.2 (cs.take off ++ (fixL S.n ti.leaves v.cells).1 ++ cs.drop (off + ti.sz)) := by
          rw [SV.lts_iff]
          have c1 := SV.lts_iff.1 (SV.lts_mono a8 cs hlo.1)
          have c2 := SV.lts_iff.1 a6
          intro z hz
          simp only [List.mem_append] at hz
          rcases hz with (hz | hz) | hz
          · exact c1 z (List.mem_of_mem_take hz)
          · exact c2 z hz
          · exact c1 z (List.mem_of_mem_drop hz)
        have hoks : SV.oks β' (cs.take off ++ (fixL S.n ti.leaves v.cells).1 ++ cs.drop (off + ti.sz)) := by
          rw [SV.oks_iff]
          have c1 := SV.oks_iff.1 (SV.oks_congr a3 cs hlo.1 hlo.2)
          have c2 := SV.oks_iff.1 a7
          intro z hz
          simp only [List.mem_append] at hz
          rcases hz with (hz | hz) | hz
          · exact c1 z (List.mem_of_mem_take hz)
          · exact c2 z hz
          · exact c1 z (List.mem_of_mem_drop hz)
        obtain ⟨h2, h3⟩ := a1.setBox (w' := w') a2 hl1 ⟨hlts, hoks⟩ (by
          rw [a3 h hlt, a4 h hlt]
          refine ⟨b, bt', hb, hϕ, ?_⟩
          rw [r2, hnew, ← hvl, List.toList_toArray, box_mid _ _ _ _ (by rw [hcs, hvl]; exact hlen)]) (fun k hk => r3 k (by rw [a4 h hlt, hϕ] at hk; simpa using hk))
        exact ⟨trivial, undef, w', β', ϕ', .inr ⟨r1, rfl⟩, ⟨fun hh => absurd hd hh, a3, h2, h3, trivial, trivial, a8, sat.fr.store r4 r5 r6 r7 hb1 r3⟩, fun h => by simp [stillP, convP, ho] at h, fun h => by simp [growP, ho] at h⟩
      · cases hR
    · cases hR
  · rename_i g' h i wd off g'' v ti hx hy hti
    have hTk := hT _ _ hti
    split at hR
    · rename_i ow T es p hl
      split at hR
      · rename_i hlen
        split at hR
        · rename_i obr ps hres
          cases hR
          obtain ⟨_, q2, q3, q4, q5, q6, q7, q8, q9, q10, q11, hd, q12, q13, q14⟩ := hob
          subst q5
          obtain ⟨x1, x2⟩ := ev_sound hx sat
          replace x1 := x1 q2
          obtain ⟨x3, bx, ox, hbx⟩ := x2 q2
          rw [val_elp hbx] at x3
          obtain ⟨y1, y2⟩ := ev_sound hy sat
          replace y1 := y1 q3
          obtain ⟨y3, y4⟩ := y2 q3
          have hoks := oks_cells y4
          have how : ow = .dp ∨ ow = .sh := by cases ow <;> simp [ownO] at q8 <;> simp
          obtain ⟨ϕ1, tk⟩ := takeIn_sound sat.hp sat.hb how q12
          generalize hA1 : (takeIn ow S.A (slsOf v.cells)).2 = A1 at *
          generalize ho1 : (takeIn ow S.A (slsOf v.cells)).1 = o1 at *
          -- the array in the heap behind
          have hl1 : ∃ p1, lk A1 h = some (.arr ow T es p1) := by
            cases hk : lk A1 h with
            | none => rw [hk] at q14; cases ow <;> simp [sameO] at q14
            | some hl1 =>
              rw [hk] at q14
              have hal : hl1 ≠ .dead → Alike hl1 (.arr ow T es p) := fun hne => by
                obtain ⟨hl0, e1, e2⟩ := tk.lk h hl1 hk hne
                rw [hl] at e1; cases e1; exact e2
              cases ow <;> cases hl1 <;> simp only [sameO] at q14
              all_goals (rename_i oo TT ee pp; cases oo <;> simp only [sameO] at q14; obtain ⟨rfl, rfl, _⟩ := hal (by simp); exact ⟨_, rfl⟩)
          obtain ⟨p1, hl1⟩ := hl1
          have hcl : v.cells.length = ti.sz := by
            have h1 : ∀ {ts : List PTy} {xs : List SV} {ob : Prop} {ps : List PV}, resLs S.A ts xs = some (ob, ps) → xs.length = ts.length := by
              intro ts
              induction ts with
              | nil => intro xs ob ps h; cases xs <;> simp [resLs] at h ⊢
              | cons t ts ih =>
                intro xs ob ps h
                cases xs with
                | nil => simp [resLs] at h
                | cons x xs =>
                  simp only [resLs] at h
                  split at h
                  · rename_i h2; simp [ih h2]
                  · cases h
            exact h1 hres
          have hvl : (SV.vals β v.cells).length = ti.sz := by simp [SV.vals_map, hcl]
          have hdata : leafDs ti.leaves = true := by
            rw [leafDs_iff]; intro t' ht'
            rw [← q6] at ht'
            exact leafDs_iff.1 q9 t' (List.mem_of_mem_drop (List.mem_of_mem_take ht'))
          -- the raw part: for a relation L of leaves
          have core : ∀ (L : World → List PTy → List PV → List Value → List Nat → Prop), (∀ w, LOk w (L w)) → (∀ w w' Ts ps vs f, L w Ts ps vs f → (∀ b ∈ f, w'.heap[b]? = w.heap[b]?) → L w' Ts ps vs f) → OwnG (L w) w (β h).v T es (ϕ1 h) → L w ti.leaves ps (SV.vals β v.cells) (fsOf ϕ1 v.cells).flatten →
              (∀ b r, ϕ1 h = b :: r → b ∉ r ∧ b ∉ (fsOf ϕ1 v.cells).flatten) →
              ∃ w' b f', ϕ1 h = b :: f' ∧ (execOp a.eval o).run P w = .ok .skip w' ∧ (∀ k, k ≠ b → w'.heap[k]? = w.heap[k]?) ∧ w'.os = w.os ∧ w'.tape = w.tape ∧ w'.output = w.output ∧ w'.heap.size = w.heap.size ∧
                ∃ g1 g2 g3, f' = g1 ++ g2 ++ g3 ∧ OwnG (L w') w' (β h).v T (storeEl T es i off ps) (b :: (g1 ++ (fsOf ϕ1 v.cells).flatten ++ g3)) := by
            intro L hLk hLf hown hnv hbn
            rcases hown with ⟨rfl, _⟩ | ⟨b, f1, cs, hϕ, ⟨⟨o', cap, c, t', fr, hv, hblk, hcap, hle, hmx, hfz, hcs⟩, hlen1, hlim⟩, hS, hL⟩
            · simp at q7
            rw [hv] at hbx
            simp only [addrOf, Option.some.injEq, Prod.mk.injEq] at hbx
            obtain ⟨rfl, rfl⟩ := hbx
            obtain ⟨v1, v2, v3, g1, g2, g3, rfl, rfl, hl1', hl2, hL1, hL2, hL3⟩ := elem_split (hLk w) hL hS q7 hlen
            obtain ⟨hbn1, hbn2⟩ := hbn _ _ hϕ
            have hct : ∃ pre post, c.toList = pre ++ (v1 ++ v2 ++ v3) ++ post ∧ pre.length = o' := by
              have h2 := congrArg List.length hcs
              rw [List.length_take, List.length_drop] at h2
              simp only [Array.length_toList, List.length_append] at h2
              refine ⟨c.toList.take o', c.toList.drop (o' + (v1 ++ v2 ++ v3).length), ?_, ?_⟩
              · conv => lhs; rw [← List.take_append_drop o' c.toList, ← List.take_append_drop (v1 ++ v2 ++ v3).length (c.toList.drop o'), hcs, List.drop_drop]
                simp only [List.append_assoc]
              · have := hTk.pos
                rw [List.length_take, Array.length_toList]; omega
            obtain ⟨pre, post, hct, hpre⟩ := hct
            have hsz : c.size = pre.length + (v1.length + v2.length + v3.length) + post.length := by
              have := congrArg List.length hct
              simpa [List.length_append, Nat.add_assoc] using this
            obtain ⟨w', r1, r2, r3, r4, r5, r6, r7⟩ := run_storeEl (P := P) (β := β) (v := v) hTk ho x3 y3 sat.hp.pl hcl q11 hblk (by omega) hfz
            obtain ⟨s1, s2, s3⟩ := storeEl_flat (off := off) (ps := ps) hS q7 (by rw [← (((hLk w).lv hnv).lens).1]; exact hlen) (((hLk w).lv hnv).leaves_of) (by rw [← (((hLk w).lv hnv).lens).1]; exact hTk.pos)
            have hpl : ps.length = ti.sz := (((hLk w).lv hnv).lens).1.symm
            refine ⟨w', b, _, hϕ, r1, r3, r4, r5, r6, r7, g1, g2, g3, rfl, .inr ⟨b, _, v1 ++ SV.vals β v.cells ++ v3, rfl, ⟨⟨o', cap, _, t', fr, by rw [s3]; exact hv, r2, ?_, by rw [s3]; exact hle, hmx, ?_, ?_⟩, ?_, by rw [s3]; exact hlim⟩, s2, ?_⟩⟩
            · simp only [List.size_toArray, List.length_append, List.length_take, List.length_drop, Array.length_toList, hvl]; omega
            · intro j hj
              apply hfz j
              simp only [List.size_toArray, List.length_append, List.length_take, List.length_drop, Array.length_toList, hvl] at hj; omega
            · rw [List.toList_toArray, hct]
              have e0 : o' + i * T.wd + off = pre.length + v1.length := by omega
              have e1 : (pre ++ (v1 ++ v2 ++ v3) ++ post).take (o' + i * T.wd + off) = pre ++ v1 := by
                rw [e0, ← List.length_append]
                have : pre ++ (v1 ++ v2 ++ v3) ++ post = (pre ++ v1) ++ (v2 ++ v3 ++ post) := by simp
                rw [this, List.take_left]
              have e2 : (pre ++ (v1 ++ v2 ++ v3) ++ post).drop (o' + i * T.wd + off + ti.sz) = v3 ++ post := by
                rw [e0, ← hl2]
                have : pre ++ (v1 ++ v2 ++ v3) ++ post = (pre ++ v1 ++ v2) ++ (v3 ++ post) := by simp
                rw [this, show pre.length + v1.length + v2.length = (pre ++ v1 ++ v2).length by simp [Nat.add_assoc], List.drop_left]
              rw [e1, e2]
              have e3 : pre ++ v1 ++ SV.vals β v.cells ++ (v3 ++ post) = pre ++ ((v1 ++ SV.vals β v.cells ++ v3) ++ post) := by simp
              rw [e3, ← hpre, List.drop_left, List.take_left]
            · rw [s3, ← hlen1]; simp only [List.length_append, hvl, hl2]
            · have hfr : ∀ {Ts ps vs f}, L w Ts ps vs f → (∀ x ∈ f, x ≠ b) → L w' Ts ps vs f := fun hh hx => hLf w w' _ _ _ _ hh fun x hxm => r3 x (hx x hxm)
              have h4 := (hLk w').app (hfr hL1 (fun x hx e => hbn1 (by subst e; simp [hx]))) ((hLk w').app (hfr hnv (fun x hx e => hbn2 (by subst e; exact hx))) (hfr hL3 (fun x hx e => hbn1 (by subst e; simp [hx]))))
              rw [s3, s1, hpl, flatT_split q7 hlen, q6]
              simpa [List.append_assoc] using h4
          -- how the array is held
          have hst := tk.hp.struck [h]
          have hbst := strike_bd tk.hb [h]
          have finish : ∀ (ob : Prop) (w' : World) (b : Nat) (g1 g2 g3 : List Nat), ϕ1 h = b :: (g1 ++ g2 ++ g3) → (execOp a.eval o).run P w = .ok .skip w' → (∀ k, k ≠ b → w'.heap[k]? = w.heap[k]?) → w'.os = w.os → w'.tape = w.tape → w'.output = w.output → w'.heap.size = w.heap.size →
              (∀ k, o1 ≠ .cs k) → (∀ rs, o1 ≠ .vw rs) → HLSat w' (β h) β (b :: (g1 ++ (fsOf ϕ1 v.cells).flatten ++ g3)) (.arr o1 T (storeEl T es i off ps) .no) → b ∈ owned (ϕ1 h) (.arr ow T es p1) → ndOk (b :: (g1 ++ (fsOf ϕ1 v.cells).flatten ++ g3)) (.arr o1 T (storeEl T es i off ps) .no) →
              Apart (strike [h] A1) ϕ1 (owned (b :: (g1 ++ (fsOf ϕ1 v.cells).flatten ++ g3)) (.arr o1 T (storeEl T es i off ps) .no)) → (∀ i' hl', lk (strike [h] A1) i' = some hl' → ∀ bb ∈ owned (ϕ1 i') hl', bb ∉ (fsOf ϕ1 v.cells).flatten) →
              (∀ bb ∈ owned (b :: (g1 ++ (fsOf ϕ1 v.cells).flatten ++ g3)) (.arr o1 T (storeEl T es i off ps) .no), bb ∈ X ∨ w0.heap.size ≤ bb) → (∀ bb ∈ (fsOf ϕ1 v.cells).flatten, bb ∈ F ∨ w0.heap.size ≤ bb) →
              Snd P w0 X F S β ϕ o a w ⟨True, ob, .nilp, set1 (strike [h] A1) h (.arr o1 T (storeEl T es i off ps) .no), S.n⟩ := by
            intro ob w' b g1 g2 g3 hϕ r1 r3 r4 r5 r6 r7 ho1 ho2 hsat hbo hnd hap hdj hX hF
            have hbap : Apart (strike [h] A1) ϕ1 [b] := strike_apart tk.hp fun bb hbb => by
              simp only [List.mem_singleton] at hbb; subst hbb
              exact ⟨h, by simp, _, hl1, hbo⟩
            have hw : Holds w0.heap.size X F (strike [h] A1) β ϕ1 w' := hst.world fun i' hl' hi' hd' bb hbb => r3 bb fun e => hbap i' hl' hi' hd' bb hbb (by simp [e])
            have hmem : ∀ bb ∈ b :: (g1 ++ (fsOf ϕ1 v.cells).flatten ++ g3), bb ∈ ϕ1 h ∨ bb ∈ (fsOf ϕ1 v.cells).flatten := by
              intro bb hbb
              rw [hϕ]
              simp only [List.mem_cons, List.mem_append] at hbb ⊢
              rcases hbb with hbb | (hbb | hbb) | hbb
              · exact .inl (.inl hbb)
              · exact .inl (.inr (.inl (.inl hbb)))
              · exact .inr hbb
              · exact .inl (.inr (.inr hbb))
            have hput := hw.put (A' := set1 (strike [h] A1) h (.arr o1 T (storeEl T es i off ps) .no)) (n := h) (fun j => lk_set1' _ _ _) (fun hl' hi => strike_dead (by simp) hi) hsat hX
              (fun _ bb hbb => by
                rcases hmem bb hbb with h1 | h1
                · exact tk.hp.all _ _ hl1 trivial bb h1
                · exact hF bb h1) hnd hap
              (fun i' hl' hi' _ bb hbb hm => by
                by_cases hd' : hl' = .dead
                · subst hd'; simp [owned] at hbb
                · obtain ⟨e1, e2, e3⟩ := strike_lk hi' hd'
                  rcases hmem bb hm with h1 | h1
                  · refine tk.hp.dj i' h hl' _ e1 hl1 (by simpa using e2) ?_ (by simp) bb hbb h1
                    rcases how with rfl | rfl <;> simp [roots]
                  · exact hdj i' hl' hi' bb hbb h1)
              (by cases o1 <;> first | trivial | exact absurd rfl (ho2 _)) (fun _ _ _ e => by cases e)
              (by cases o1 <;> first | exact absurd rfl (ho2 _) | simp [roots])
            refine ⟨trivial, undef, w', β, _, .inr ⟨r1, rfl⟩, ⟨fun hh => absurd hd hh, fun _ _ => rfl, hput, bd_put hbst (fun j => lk_set1' _ _ _) (sat.hb _ _ hl).1 (by cases o1 <;> first | trivial | exact absurd rfl (ho2 _)), trivial, trivial, Nat.le_refl _, sat.fr.store r4 r5 r6 r7 (tk.hp.own _ _ hl1 b hbo) r3⟩, fun h => by simp [stillP, convP, ho] at h, fun h => by simp [growP, ho] at h⟩
          have hndh := tk.hp.nd _ _ hl1
          rcases tk.how with ⟨e1, e2, e3, e4, e5⟩ | ⟨e1, e2, e3, e4⟩
          · -- all owned
            have how2 : ow = .dp := by
              rcases how with h1 | h1
              · exact h1
              · subst h1
                rw [← ho1] at e1
                simp only [takeIn] at e1
                split at e1 <;> cases e1
            subst how2
            subst e1
            rw [← fsOf_flat] at e3 e4 e5
            have hLD := resLs_own hres q4 hoks (ϕ' := ϕ1) e2
            have hLo : Lo w ti.leaves ps (SV.vals β v.cells) (fsOf ϕ1 v.cells).flatten := ⟨_, rfl, loD_lo hLD hdata⟩
            have hsep : ∀ bb ∈ ϕ1 h, bb ∉ (fsOf ϕ1 v.cells).flatten := fun bb hbb => e4 h _ hl1 (by simp) bb hbb
            obtain ⟨w', b, f', hϕ, r1, r3, r4, r5, r6, r7, g1, g2, g3, rfl, hnew⟩ := core Lo lok_lo (fun w w' _ _ _ _ hh hf => hh.frame hf) (tk.hp.sat _ _ hl1) hLo (fun b r hb => ⟨by
              have : (ϕ1 h).Nodup := hndh
              rw [hb] at this; exact (List.nodup_cons.1 this).1, hsep b (by rw [hb]; simp)⟩)
            have hnd2 : (b :: (g1 ++ g2 ++ g3)).Nodup := by have : (ϕ1 h).Nodup := hndh; rwa [hϕ] at this
            obtain ⟨n1, n2⟩ := List.nodup_cons.1 hnd2
            obtain ⟨n3, n4, n5⟩ := List.nodup_append.1 n2
            obtain ⟨n6, n7, n8⟩ := List.nodup_append.1 n3
            have hsub : ∀ bb ∈ g1 ++ g2 ++ g3, bb ∈ ϕ1 h := fun bb hbb => by rw [hϕ]; exact List.mem_cons_of_mem _ hbb
            refine finish _ w' b g1 g2 g3 hϕ r1 r3 r4 r5 r6 r7 (by simp) (by simp) hnew (by simp [owned, hϕ]) ?_ ?_ ?_ ?_ ?_
            · refine List.nodup_cons.2 ⟨?_, List.nodup_append.2 ⟨List.nodup_append.2 ⟨n6, e3, ?_⟩, n4, ?_⟩⟩
              · intro hm
                simp only [List.mem_append] at hm
                rcases hm with (hm | hm) | hm
                · exact n1 (by simp [hm])
                · exact hsep b (by rw [hϕ]; simp) hm
                · exact n1 (by simp [hm])
              · intro x hx y hy e; subst e; exact hsep x (hsub x (by simp [hx])) hy
              · intro x hx y hy e; subst e
                rcases List.mem_append.1 hx with hx | hx
                · exact n5 x (by simp [hx]) x hy rfl
                · exact hsep x (hsub x (by simp [hy])) hx
            · have hap1 : Apart (strike [h] A1) ϕ1 (ϕ1 h) := strike_apart tk.hp fun bb hbb => ⟨h, by simp, _, hl1, by simpa [owned] using hbb⟩
              intro i' hl' hi' hd' bb hbb hm
              simp only [owned, List.mem_cons, List.mem_append] at hm
              rcases hm with rfl | (hm | hm) | hm
              · exact hap1 i' hl' hi' hd' _ hbb (by rw [hϕ]; simp)
              · exact hap1 i' hl' hi' hd' _ hbb (hsub _ (by simp [hm]))
              · exact e4 i' hl' (strike_lk hi' hd').1 hd' bb hbb hm
              · exact hap1 i' hl' hi' hd' _ hbb (hsub _ (by simp [hm]))
            · intro i' hl' hi' bb hbb hm
              by_cases hd' : hl' = .dead
              · subst hd'; simp [owned] at hbb
              · exact e4 i' hl' (strike_lk hi' hd').1 hd' bb (owned_sub bb hbb) hm
            · intro bb hbb
              simp only [owned, List.mem_cons, List.mem_append] at hbb
              rcases hbb with rfl | (hm | hm) | hm
              · exact tk.hp.own _ _ hl1 _ (by simp [owned, hϕ])
              · exact tk.hp.own _ _ hl1 _ (by simpa [owned] using hsub _ (by simp [hm]))
              · exact (e5 bb hm).1
              · exact tk.hp.own _ _ hl1 _ (by simpa [owned] using hsub _ (by simp [hm]))
            · exact fun bb hbb => (e5 bb hbb).2
          · -- what lies behind is shared
            subst e1
            rw [← fsOf_flat] at e3 e4
            have hLv := resLs_lv hres q4 hoks (ϕ' := ϕ1) e2
            have hown : OwnS w (β h).v T es (ϕ1 h) := by
              have := tk.hp.sat _ _ hl1
              rcases how with rfl | rfl
              · exact ownD_S this
              · exact this
            have hbh : ∀ b r, ϕ1 h = b :: r → b ∈ owned (ϕ1 h) (.arr ow T es p1) := by
              intro b r hb; rw [hb]; rcases how with rfl | rfl <;> simp [owned]
            have hbn : ∀ b r, ϕ1 h = b :: r → b ∉ r := by
              intro b r hb
              rcases how with rfl | rfl
              · have : (ϕ1 h).Nodup := hndh
                rw [hb] at this; exact (List.nodup_cons.1 this).1
              · exact hndh b r hb
            obtain ⟨w', b, f', hϕ, r1, r3, r4, r5, r6, r7, g1, g2, g3, rfl, hnew⟩ := core Lv lok_lv (fun w w' _ _ _ _ hh hf => hh.frame hf) hown hLv (fun b r hb => ⟨hbn b r hb, e3 h _ hl1 b (hbh b r hb)⟩)
            refine finish _ w' b g1 g2 g3 hϕ r1 r3 r4 r5 r6 r7 (by simp) (by simp) hnew (hbh _ _ hϕ) ?_ ?_ ?_ ?_ e4
            · intro b' r' e
              cases e
              intro hm
              simp only [List.mem_append] at hm
              rcases hm with (hm | hm) | hm
              · exact hbn _ _ hϕ (by simp [hm])
              · exact e3 h _ hl1 b (hbh _ _ hϕ) hm
              · exact hbn _ _ hϕ (by simp [hm])
            · refine strike_apart tk.hp fun bb hbb => ?_
              simp only [owned, List.take_succ_cons, List.take_zero, List.mem_singleton] at hbb
              subst hbb
              exact ⟨h, by simp, _, hl1, hbh _ _ hϕ⟩
            · intro i' hl' hi' bb hbb hm
              by_cases hd' : hl' = .dead
              · subst hd'; simp [owned] at hbb
              · exact e3 i' hl' (strike_lk hi' hd').1 bb hbb hm
            · intro bb hbb
              simp only [owned, List.take_succ_cons, List.take_zero, List.mem_singleton] at hbb
              subst hbb
              exact tk.hp.own _ _ hl1 _ (hbh _ _ hϕ)
        · cases hR
      · cases hR
    · -- an array
      rename_i T es hl
      split at hR
      · rename_i hlen
        split at hR
        · rename_i obr ps hres
          cases hR
          obtain ⟨_, q2, q3, q4, q5, q6, q7, q9, q10, q11, hd⟩ := hob
          subst q5
          obtain ⟨x1, x2⟩ := ev_sound hx sat
          replace x1 := x1 q2
          obtain ⟨x3, bx, ox, hbx⟩ := x2 q2
          rw [val_elp hbx] at x3
          obtain ⟨y1, y2⟩ := ev_sound hy sat
          replace y1 := y1 q3
          obtain ⟨y3, y4⟩ := y2 q3
          obtain ⟨fn, hnv, _⟩ := resLs_sound hres q4 sat.hp (oks_cells y4)
          have hfn : fn = [] := flat_fp hnv (by
            intro t' ht'
            rw [← q6] at ht'
            exact flat_ty q9 t' (List.mem_of_mem_drop (List.mem_of_mem_take ht')))
          subst hfn
          obtain ⟨hfb, hS, b, t', c, hv, hϕ, hblk, hL⟩ := sat.hp.sat _ _ hl
          rw [hv] at hbx
          simp only [addrOf, Option.some.injEq, Prod.mk.injEq] at hbx
          obtain ⟨rfl, rfl⟩ := hbx
          obtain ⟨v1, v2, v3, g1, g2, g3, hcs, hg, hl1, hl2, hL1, hL2, hL3⟩ := elem_split (lok_lv w) hL hS q7 hlen
          simp only [List.nil_eq_append_iff, List.append_eq_nil_iff] at hg
          obtain ⟨⟨rfl, rfl⟩, rfl⟩ := hg
          have hcl : v.cells.length = ti.sz := by
            have h1 := hnv.lens
            simp only [SV.vals_map, List.length_map] at h1
            rw [h1.2, ← h1.1]; rfl
          have hvl : (SV.vals β v.cells).length = ti.sz := by simp [SV.vals_map, hcl]
          have hpl : ps.length = ti.sz := (hnv.lens).1.symm
          have hsz : c.size = v1.length + v2.length + v3.length := by
            have := congrArg List.length hcs
            simpa [List.length_append, Nat.add_assoc] using this
          obtain ⟨w', r1, r2, r3, r4, r5, r6, r7⟩ := run_storeEl (P := P) (β := β) (v := v) hTk ho x3 y3 sat.hp.pl hcl q11 hblk (by omega) (by simp)
          obtain ⟨s1, s2, s3⟩ := storeEl_flat (off := off) (ps := ps) hS q7 (by rw [hpl]; exact hlen) (hnv.leaves_of) (by rw [hpl]; exact hTk.pos)
          have hnew : HLSat w' (β h) β (ϕ h) (.abx true T (storeEl T es i off ps)) := by
            refine ⟨hfb, s2, b, t', _, hv, hϕ, r2, ?_⟩
            have h4 := (hL1.append (hnv.append hL3)).frame (w' := w') (by simp)
            rw [s3, s1, hpl, flatT_split q7 hlen, q6]
            have e0 : 0 + i * T.wd + off = v1.length := by omega
            have e1 : c.toList.take (0 + i * T.wd + off) = v1 := by
              rw [e0, hcs, List.append_assoc, List.take_left]
            have e2 : c.toList.drop (0 + i * T.wd + off + ti.sz) = v3 := by
              rw [e0, hcs, ← hl2, ← List.length_append, List.drop_left]
            rw [List.toList_toArray, e1, e2]
            simpa [List.append_assoc] using h4
          have hb1 : b ∈ X ∨ w0.heap.size ≤ b := sat.hp.own _ _ hl b (by simp [owned, hϕ])
          have h2 := sat.hp.redo (A' := set1 (strike [h] S.A) h (.abx true T (storeEl T es i off ps))) (f := ϕ h) (hl0 := .abx true T (storeEl T es i off ps)) (fun j => lk_set1' _ _ _) hl hnew (fun b hb' => .inl (by simpa [owned] using hb')) (fun k _ hk => r3 k (by rw [hϕ] at hk; simpa [owned] using hk)) trivial (by simp) (by simp [roots]) (by simp) (fun _ => trivial) (fun o t cs e => by cases e)
          have hid : upd ϕ h (ϕ h) = ϕ := by funext k; unfold upd; split <;> simp_all
          rw [hid] at h2
          exact ⟨trivial, undef, w', β, ϕ, .inr ⟨r1, rfl⟩, ⟨fun hh => absurd hd hh, fun _ _ => rfl, h2, bd_put (strike_bd sat.hb _) (fun j => lk_set1' _ _ _) (sat.hb _ _ hl).1 trivial, trivial, trivial, Nat.le_refl _, sat.fr.store r4 r5 r6 r7 hb1 r3⟩, fun h => by simp [stillP, convP, ho] at h, fun h => by simp [growP, ho] at h⟩
        · cases hR
      · cases hR
    · cases hR
  · cases hR

end
end Go.Proofs.Ytmjjdfhpnckacab
