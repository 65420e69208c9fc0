/-
  The making of structs and slices; slices of slices; append.
  Conditions: the table of types says what the program's says.
-/
import Derived.Test.YtmjjdfhpnckacabOpF
namespace Go.Proofs.Ytmjjdfhpnckacab
set_option linter.unusedVariables false
section
variable {P : Program} {E : Env} {N : Nat} {w0 : World} {X F : List Nat} {S : St} {β : Nat → GV} {ϕ : Nat → List Nat} {a : Act} {w w' : World} {o : Oper} {R : RR} {A : Hp} {B : Nat}

/-- A value's cells laid over a row of cells. -/
theorem foldl_set (off : Nat) : ∀ (vs : List Value) (j : Nat) (cs : Array Value), off + j + vs.length ≤ cs.size →
    ((vs.zipIdx j).foldl (fun cs (x : Value × Nat) => cs.setIfInBounds (off + x.2) x.1) cs) = (cs.toList.take (off + j) ++ vs ++ cs.toList.drop (off + j + vs.length)).toArray
  | [], j, cs, h => by simp
  | v :: vs, j, cs, h => by
    simp only [List.length_cons] at h
    simp only [List.zipIdx_cons, List.foldl_cons]
    rw [foldl_set off vs (j + 1) _ (by simp; omega)]
    congr 1
    have e1 : (cs.setIfInBounds (off + j) v).toList = cs.toList.set (off + j) v := by simp
    rw [e1]
    have e2 : (cs.toList.set (off + j) v).take (off + (j + 1)) = cs.toList.take (off + j) ++ [v] := by
      rw [show off + (j + 1) = (off + j) + 1 by omega, List.take_succ_eq_append_getElem (by simp; omega)]
      simp [List.take_set_of_le]
    have e3 : (cs.toList.set (off + j) v).drop (off + (j + 1) + vs.length) = cs.toList.drop (off + j + (v :: vs).length) := by
      rw [List.drop_set_of_lt (by omega)]
      congr 1; simp; omega
    rw [e2, e3]; simp

theorem fill_step (place : Nat → Option (Nat × Nat)) (cells : Array Value) (i : Nat) (v : Value) (rest : List (Nat × Value)) {off size : Nat} (hp : place i = some (off, size)) (hs : v.cells.size = size) (hb : off + v.cells.size ≤ cells.size) :
    Instr.fill place cells ((i, v) :: rest) = Instr.fill place (cells.toList.take off ++ v.cells.toList ++ cells.toList.drop (off + v.cells.size)).toArray rest := by
  have h1 : ¬ (v.cells.size ≠ size ∨ off + v.cells.size > cells.size) := by omega
  simp only [Instr.fill, hp]
  have h2 : (decide (v.cells.size ≠ size) || decide (off + v.cells.size > cells.size)) = false := by simp [hs]; omega
  rw [if_neg (by simpa using h2)]
  congr 1
  have := foldl_set off v.cells.toList 0 cells (by simpa using hb)
  simp only [Nat.add_zero, Array.length_toList] at this
  rw [← this, ← Array.foldl_toList, Array.toList_zipIdx]

theorem parts_map (l : List (Nat × Operand)) (f : Operand → Value) : l.map (fun x => (x.1, f x.2)) = (idxs l).zip ((oprs l).map f) := by
  induction l with
  | nil => rfl
  | cons x l ih => obtain ⟨i, y⟩ := x; simp [idxs, oprs, ih]

theorem fillSV_sound {ti : TI} {fs : Array Field} (hT : EnvTy P E) {t : TypeId} (hti : TIok P t ti) (pl : ∀ h, (β h).v.oneCell' = true) : ∀ (is : List Nat) (vs cells cells' : List SV), fillSV ti.flds cells is vs = some cells' → partsOk E ti.flds is vs →
    (∀ (f off ft : Nat), ti.flds[f]? = some (off, ft) → ∀ tf, lk E.ty ft = some tf → (fs.map fun f => (f.offset, (Program.cellsOf P f.type)))[f]? = some (off, tf.sz)) → 
    Instr.fill ((fs.map fun f => (f.offset, (Program.cellsOf P f.type)))[·]?) (SV.vals β cells).toArray (is.zip (SV.vals β vs)) = some (SV.vals β cells').toArray
  | [], [], cells, cells', h, _, _ => by cases h; rfl
  | [], v :: vs, cells, cells', h, _, _ => by cases h
  | i :: is, [], cells, cells', h, _, _ => by cases h
  | i :: is, v :: vs, cells, cells', h, hp, hfs => by
    simp only [fillSV] at h
    split at h
    · rename_i off ft hf
      split at h
      · rename_i hle
        simp only [partsOk, hf] at hp
        obtain ⟨hp1, hp2⟩ := hp
        split at hp1
        · rename_i tf htf
          have h1 := hfs i off ft hf tf htf
          have hc := val_cells pl v
          have hcl : (SV.val β v).cells.size = tf.sz := by rw [hc]; simp [SV.vals_map, hp1]
          simp only [SV.vals, List.zip_cons_cons]
          rw [fill_step _ _ i _ _ h1 hcl (by rw [hcl]; simp [SV.vals_map]; omega)]
          have ih := fillSV_sound hT hti pl is vs _ cells' h hp2 hfs
          rw [← ih]
          congr 1
          rw [hc]
          simp [SV.vals_map, List.map_take, List.map_drop]
        · exact hp1.elim
      · cases h
    · cases h

theorem run_places_all : ∀ (fs : List Field), (∀ f ∈ fs, ∃ i, P.info? f.type = some i) → (fs.mapM fun f => Prod.mk f.offset <$> sizeOf f.type).run P w = .ok (fs.map fun f => (f.offset, P.cellsOf f.type)) w
  | [], _ => rfl
  | f :: fs, h => by
    obtain ⟨i, hi⟩ := h f (by simp)
    have ih := run_places_all fs fun g hg => h g (by simp [hg])
    simp [List.mapM_cons, sizeOf, typeInfo, hi, ih, Program.cellsOf] at ih ⊢
    rw [ih]; rfl

theorem fillSV_mem {flds : List (Nat × Nat)} : ∀ {is : List Nat} {vs cells cells' : List SV}, fillSV flds cells is vs = some cells' → ∀ x ∈ cells', x ∈ cells ∨ ∃ v ∈ vs, x ∈ v.cells
  | [], [], cells, cells', h => by cases h; exact fun x hx => .inl hx
  | [], v :: vs, cells, cells', h => by cases h
  | i :: is, [], cells, cells', h => by cases h
  | i :: is, v :: vs, cells, cells', h => by
    simp only [fillSV] at h
    split at h
    · split at h
      · intro x hx
        rcases fillSV_mem h x hx with h1 | ⟨u, hu, h1⟩
        · simp only [List.mem_append] at h1
          rcases h1 with (h1 | h1) | h1
          · exact .inl (List.mem_of_mem_take h1)
          · exact .inr ⟨v, by simp, h1⟩
          · exact .inl (List.mem_of_mem_drop h1)
        · exact .inr ⟨u, by simp [hu], h1⟩
      · cases h
    · cases h

theorem s_build {t : TypeId} {parts : Array (Nat × Operand)} (hT : EnvTy P E) (ho : o.op = .build t parts) (hR : opRes E S true o = some R) (sat : Sat N w0 X F S β ϕ a w) (hob : R.ob) : Snd P w0 X F S β ϕ o a w R := by
  unfold opRes at hR
  rw [ho] at hR
  simp only at hR
  split at hR
  · rename_i ti ob vs hti hvs
    split at hR
    · rename_i cs hcs
      rw [zeroSVs_map] at hcs
      cases hR
      obtain ⟨q1, q2, fs, hfd⟩ := hob
      obtain ⟨v1, v2⟩ := evs_sound hvs sat
      replace v1 := v1 rfl (q1 rfl)
      obtain ⟨v3, v4⟩ := v2 rfl (q1 rfl)
      have hTk := hT _ _ hti
      obtain ⟨z, hz, hzc⟩ := run_zero hTk w
      have hz2 : z.cells = (SV.vals β (ti.leaves.map zeroSV)).toArray := by rw [hzc, zero_vals β hTk.lf hTk.nf]
      have hu := run_und hTk w
      rw [hfd] at hu
      have hpl := run_places_all (P := P) (w := w) fs.toList (fun f hf => hTk.fsz fs hfd f (by simpa using hf))
      have hfill := fillSV_sound (fs := fs) hT hTk sat.hp.pl _ _ _ _ hcs q2 (by
        intro f off ft hf tf htf
        obtain ⟨fs', fd, hd', h1, rfl, rfl⟩ := hTk.flds f off ft hf
        rw [hfd] at hd'
        cases hd'
        obtain ⟨i, hi, hs, _⟩ := (hT _ _ htf).info
        simp [h1, Program.cellsOf, hi, hs])
      have hparts : (parts.map fun (i, x) => (i, a.eval x)).toList = (idxs parts.toList).zip (SV.vals β vs) := by
        rw [Array.toList_map, ← v3]
        exact parts_map parts.toList a.eval
      refine snd_pure sat trivial ?_ ?_ ?_
      · simp only [execOp, ho, Instr.build, Sem.run_bind, hz, Result.andThen_ok, hu, Array.mapM_eq_mapM_toList]
        simp only [bind_pure_comp, Sem.run_map, hpl, Result.andThen_ok, hparts, hz2]
        have hg : (fun (x : Nat) => (List.map (fun f => (f.offset, P.cellsOf f.type)) fs.toList).toArray[x]?) = (fun (x : Nat) => (fs.map fun f => (f.offset, P.cellsOf f.type))[x]?) := by
          funext x; simp
        rw [hg, hfill]
        simp [SV.val]
      · show SV.lts _ _
        rw [SV.lts_iff]
        intro x hx
        rcases fillSV_mem hcs x hx with h1 | ⟨u, hu, h1⟩
        · exact SV.lts_iff.1 (zero_lts _ _) x h1
        · exact SV.lts_iff.1 (lts_cells (SV.lts_iff.1 v1 u hu)) x h1
      · show SV.oks _ _
        rw [SV.oks_iff]
        intro x hx
        rcases fillSV_mem hcs x hx with h1 | ⟨u, hu, h1⟩
        · exact SV.oks_iff.1 (zero_oks _ _) x h1
        · exact SV.oks_iff.1 (oks_cells (SV.oks_iff.1 v4 u hu)) x h1
    · cases hR
  · cases hR

end
end Go.Proofs.Ytmjjdfhpnckacab
