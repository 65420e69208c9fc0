/-
  The making of slices out of their elements.
  Conditions: the table of types says what the program's says.
-/
import Derived.Test.YtmjjdfhpnckacabOpG
namespace Go.Proofs.Ytmjjdfhpnckacab
set_option linter.unusedVariables false
section
variable {P : Program} {E : Env} {N : Nat} {w0 : World} {X F : List Nat} {S : St} {β : Nat → GV} {ϕ : Nat → List Nat} {a : Act} {w w' : World} {o : Oper} {R : RR} {A : Hp} {B : Nat}

theorem pty_wd {P : Program} {t : TypeId} {te : TI} (hTe : TIok P t te) : te.pty.wd = te.sz ∧ te.pty.leaves = te.leaves := by
  unfold TI.pty
  cases hA : te.agg with
  | true => simp [PTy.wd, PTy.leaves, TI.sz]
  | false =>
    obtain ⟨y, hy⟩ := List.length_eq_one_iff.1 (show te.leaves.length = 1 from hTe.one hA)
    have := hTe.lf y (by simp [hy])
    simp [hy, PTy.wd, TI.sz, this]

/-- An element's value by its leaves. -/
theorem resB_leaves {T : PTy} {x : SV} {ob : Prop} {p : PV} (hd : dataB T = true) (h : resB A T x = some (ob, p)) : resLs A T.leaves x.cells = some (ob, p.leaves) ∨ resLs A T.leaves x.cells = some (ob ∧ True, p.leaves) := by
  cases T with
  | agg ts =>
    cases x with
    | agg xs =>
      simp only [resB] at h
      split at h
      · rename_i o ps hps
        simp only [Option.some.injEq, Prod.mk.injEq] at h
        obtain ⟨rfl, rfl⟩ := h
        exact .inl hps
      · cases h
    | _ => simp [resB, resL] at h
  | int k => cases x <;> simp only [resB, resL, reduceCtorEq, Option.some.injEq, Prod.mk.injEq] at h <;> obtain ⟨rfl, rfl⟩ := h <;> exact .inr (by simp [PTy.leaves, SV.cells, resLs, resL, PV.leaves])
  | bool => cases x <;> simp only [resB, resL, reduceCtorEq, Option.some.injEq, Prod.mk.injEq] at h <;> obtain ⟨rfl, rfl⟩ := h <;> exact .inr (by simp [PTy.leaves, SV.cells, resLs, resL, PV.leaves])
  | str => cases x <;> simp only [resB, resL, reduceCtorEq, Option.some.injEq, Prod.mk.injEq] at h <;> obtain ⟨rfl, rfl⟩ := h <;> exact .inr (by simp [PTy.leaves, SV.cells, resLs, resL, PV.leaves])
  | list T =>
    have h' : resL A (.list T) x = some (ob, p) := by cases x <;> simpa [resB] using h
    have hx : x.cells = [x] := by cases x <;> first | rfl | (simp [resL] at h')
    have hp : p.leaves = [p] := by
      cases x <;> simp only [resL, reduceCtorEq] at h'
      · split at h'
        · cases h'
        · simp only [Option.some.injEq, Prod.mk.injEq] at h'; obtain ⟨_, rfl⟩ := h'; rfl
        · cases h'
      · simp only [Option.some.injEq, Prod.mk.injEq] at h'; obtain ⟨_, rfl⟩ := h'; rfl
    right
    rw [hx, hp]
    simp [PTy.leaves, resLs, h']
  | _ => simp [dataB, PTy.leaves, leafDs, leafD] at hd

theorem resLs_len : ∀ {ts : List PTy} {xs : List SV} {ob : Prop} {ps : List PV}, resLs A ts xs = some (ob, ps) → xs.length = ts.length ∧ ps.length = ts.length
  | [], [], ob, ps, h => by cases h; exact ⟨rfl, rfl⟩
  | [], x :: xs, ob, ps, h => by cases h
  | t :: ts, [], ob, ps, h => by cases h
  | t :: ts, x :: xs, ob, ps, h => by
    simp only [resLs] at h
    split at h
    · rename_i h2
      cases h
      obtain ⟨h3, h4⟩ := resLs_len h2
      exact ⟨by simp [h3], by simp [h4]⟩
    · cases h

theorem resB_shp {T : PTy} {x : SV} {ob : Prop} {p : PV} (hd : dataB T = true) (h : resB A T x = some (ob, p)) : Shp T p := by
  cases T with
  | agg ts =>
    cases x with
    | agg xs =>
      simp only [resB] at h
      split at h
      · rename_i o ps hps
        simp only [Option.some.injEq, Prod.mk.injEq] at h
        obtain ⟨rfl, rfl⟩ := h
        exact ⟨ps, rfl, (resLs_len hps).2⟩
      · cases h
    | _ => simp [resB, resL] at h
  | int k => cases x <;> simp only [resB, resL, reduceCtorEq, Option.some.injEq, Prod.mk.injEq] at h <;> obtain ⟨rfl, rfl⟩ := h <;> simp [Shp]
  | bool => cases x <;> simp only [resB, resL, reduceCtorEq, Option.some.injEq, Prod.mk.injEq] at h <;> obtain ⟨rfl, rfl⟩ := h <;> simp [Shp]
  | str => cases x <;> simp only [resB, resL, reduceCtorEq, Option.some.injEq, Prod.mk.injEq] at h <;> obtain ⟨rfl, rfl⟩ := h <;> simp [Shp]
  | list T =>
    have h' : resL A (.list T) x = some (ob, p) := by cases x <;> simpa [resB] using h
    cases x <;> simp only [resL, reduceCtorEq] at h'
    · split at h'
      · cases h'
      · simp only [Option.some.injEq, Prod.mk.injEq] at h'; obtain ⟨_, rfl⟩ := h'; simp [Shp]
      · cases h'
    · simp only [Option.some.injEq, Prod.mk.injEq] at h'; obtain ⟨_, rfl⟩ := h'; simp [Shp]
  | _ => simp [dataB, PTy.leaves, leafDs, leafD] at hd

def cellsAll : List SV → List SV
  | [] => []
  | x :: xs => x.cells ++ cellsAll xs

theorem slsOf_append (xs ys : List SV) : slsOf (xs ++ ys) = slsOf xs ++ slsOf ys := by
  induction xs with
  | nil => rfl
  | cons x xs ih => cases x <;> simp [slsOf, ih]

theorem slsAll_cells (xs : List SV) : slsAll xs = slsOf (cellsAll xs) := by
  induction xs with
  | nil => rfl
  | cons x xs ih => simp [slsAll, cellsAll, slsOf_append, ih]

theorem resLs_append : ∀ {ts ts' : List PTy} {xs xs' : List SV} {ob ob' : Prop} {ps ps' : List PV}, resLs A ts xs = some (ob, ps) → resLs A ts' xs' = some (ob', ps') → ∃ ob2, resLs A (ts ++ ts') (xs ++ xs') = some (ob2, ps ++ ps') ∧ (ob → ob' → ob2)
  | [], ts', [], xs', ob, ob', ps, ps', h, h' => by cases h; exact ⟨ob', by simpa using h', fun _ h => h⟩
  | [], ts', x :: xs, xs', ob, ob', ps, ps', h, h' => by cases h
  | t :: ts, ts', [], xs', ob, ob', ps, ps', h, h' => by cases h
  | t :: ts, ts', x :: xs, xs', ob, ob', ps, ps', h, h' => by
    simp only [resLs] at h
    split at h
    · rename_i o1 p o2 qs h1 h2
      cases h
      obtain ⟨ob2, h3, h4⟩ := resLs_append h2 h'
      exact ⟨o1 ∧ ob2, by simp [resLs, h1, h3], fun h5 h6 => ⟨h5.1, h4 h5.2 h6⟩⟩
    · cases h

theorem resEs_sound {T : PTy} (hd : dataB T = true) : ∀ {vs : List SV} {ob : Prop} {ps : List PV}, resEs A T vs = some (ob, ps) → ob →
    ∃ ob2, resLs A (flatT T vs.length) (cellsAll vs) = some (ob2, flatP ps) ∧ ob2 ∧ (∀ e ∈ ps, Shp T e) ∧ ps.length = vs.length ∧ (∀ v ∈ vs, v.cells.length = T.wd)
  | [], ob, ps, h, hob => by cases h; exact ⟨True, rfl, trivial, by simp, rfl, by simp⟩
  | v :: vs, ob, ps, h, hob => by
    simp only [resEs] at h
    split at h
    · rename_i o1 p o2 qs h1 h2
      cases h
      obtain ⟨ob2, b1, b2, b3, b4, b5⟩ := resEs_sound hd h2 hob.2
      have hs := resB_shp hd h1
      have hl : ∃ o3, resLs A T.leaves v.cells = some (o3, p.leaves) ∧ o3 := by
        rcases resB_leaves hd h1 with h3 | h3
        · exact ⟨_, h3, hob.1⟩
        · exact ⟨_, h3, hob.1, trivial⟩
      obtain ⟨o3, h3, h4⟩ := hl
      obtain ⟨ob4, h5, h6⟩ := resLs_append h3 b1
      have e1 : flatT T (v :: vs).length = T.leaves ++ flatT T vs.length := by simp [flatT, List.replicate_succ]
      have e2 : flatP (p :: qs) = p.leaves ++ flatP qs := by simp [flatP]
      refine ⟨ob4, by rw [e1, e2]; exact h5, h6 h4 b2, ?_, by simp [b4], ?_⟩
      · intro e he
        rcases List.mem_cons.1 he with rfl | he
        · exact hs
        · exact b3 e he
      · intro u hu
        rcases List.mem_cons.1 hu with rfl | hu
        · exact (resLs_len h3).1
        · exact b5 u hu
    · cases h

theorem oks_all : ∀ {xs : List SV}, SV.oks β xs → SV.oks β (cellsAll xs)
  | [], _ => trivial
  | x :: xs, h => by
    have h1 := oks_cells h.1
    have h2 := oks_all h.2
    rw [SV.oks_iff] at *
    intro y hy
    rcases List.mem_append.1 hy with hy | hy
    · exact h1 y hy
    · exact h2 y hy

theorem dataB_flatT {T : PTy} (h : dataB T = true) (n : Nat) : leafDs (flatT T n) = true := by
  rw [leafDs_iff]
  intro t ht
  simp only [flatT, List.mem_flatten, List.mem_replicate] at ht
  obtain ⟨l, ⟨_, rfl⟩, hm⟩ := ht
  exact leafDs_iff.1 h t hm

/-- A new array that takes lists in. -/
theorem add_taken {n b : Nat} {T : PTy} {es : List PV} {v : Value} {hs : List Nat} {o' : Own} {A A' : Hp} {ϕ' : Nat → List Nat} (tk : Taken w0.heap.size X F A A' β ϕ' w n o' hs) (hw : Fr w0 X w) (hf : ∀ b, b < w.heap.size → w'.heap[b]? = w.heap[b]?) (hb : w.heap.size ≤ b)
    (hdp : o' = .dp → OwnD w' v T es (b :: (hs.map ϕ').flatten)) (hsh : o' = .sh → OwnS w' v T es (b :: (hs.map ϕ').flatten)) :
    Holds w0.heap.size X F ((n, .arr o' T es .no) :: A') (upd β n (gv v)) (upd ϕ' n (b :: (hs.map ϕ').flatten)) w' ∧ Bd (n + 1) (upd β n (gv v)) ((n, .arr o' T es .no) :: A') := by
  have hp := tk.hp.grow hf
  have hsz := hw.size
  have hnot : ∀ i hl, lk A' i = some hl → hl ≠ .dead → ∀ x ∈ ϕ' i, x ≠ b := by
    intro i hl hi hd x hx e
    subst e
    have := tk.hp.inb hi hd x hx
    omega
  have hbn : b ∉ (hs.map ϕ').flatten := fun hm => by have := tk.inb b hm; omega
  rcases tk.how with ⟨rfl, e2, e3, e4, e5⟩ | ⟨rfl, e2, e3, e4⟩
  · have ho := hdp rfl
    refine ⟨hp.add tk.hb (lv_one1 ho.lv) ho ?_ ?_ (List.nodup_cons.2 ⟨hbn, e3⟩) ?_ ?_ trivial (by simp [roots]) (by simp [roots]), hb_add tk.hb trivial⟩
    · intro x hx
      rcases List.mem_cons.1 hx with rfl | hx
      · exact .inr (by omega)
      · exact (e5 x hx).1
    · intro _ x hx
      rcases List.mem_cons.1 hx with rfl | hx
      · exact .inr (by omega)
      · exact (e5 x hx).2
    · intro i hl hi hd x hx hm
      rcases List.mem_cons.1 hm with rfl | hm
      · exact hnot i hl hi hd x hx rfl
      · exact e4 i hl hi hd x hx hm
    · intro i hl hi _ x hx hm
      by_cases hd : hl = .dead
      · subst hd; simp [owned] at hx
      · rcases List.mem_cons.1 hm with rfl | hm
        · exact hnot i hl hi hd x (owned_sub x hx) rfl
        · exact e4 i hl hi hd x (owned_sub x hx) hm
  · have ho := hsh rfl
    refine ⟨hp.add tk.hb (lv_one1 ho.lv) ho ?_ ?_ ?_ ?_ ?_ trivial (by simp [roots]) (by simp [roots]), hb_add tk.hb trivial⟩
    · intro x hx
      simp only [owned, List.take_succ_cons, List.take_zero, List.mem_singleton] at hx
      exact .inr (by omega)
    · intro _ x hx
      rcases List.mem_cons.1 hx with rfl | hx
      · exact .inr (by omega)
      · exact e4 x hx
    · intro b' r e
      cases e
      exact hbn
    · intro i hl hi hd x hx hm
      simp only [owned, List.take_succ_cons, List.take_zero, List.mem_singleton] at hm
      exact hnot i hl hi hd x hx hm
    · intro i hl hi _ x hx hm
      by_cases hd : hl = .dead
      · subst hd; simp [owned] at hx
      · rcases List.mem_cons.1 hm with rfl | hm
        · exact hnot i hl hi hd x (owned_sub x hx) rfl
        · exact e3 i hl hi x hx hm

theorem fill_all (size : Nat) : ∀ (vals : List Value) (k : Nat) (c : List Value), (∀ v ∈ vals, v.cells.size = size) → c.length = (k + vals.length) * size →
    Instr.fill (fun i => some (i * size, size)) c.toArray ((List.range' k vals.length).zip vals) = some (c.take (k * size) ++ vals.flatMap fun v => v.cells.toList).toArray
  | [], k, c, _, hc => by
    simp only [List.length_nil, Nat.add_zero] at hc
    simp [Instr.fill, List.take_of_length_le (Nat.le_of_eq hc)]
  | v :: vals, k, c, hv, hc => by
    have h1 := hv v (by simp)
    simp only [List.length_cons] at hc
    have e : (k + (vals.length + 1)) * size = k * size + size + vals.length * size := by simp only [Nat.add_mul, Nat.one_mul]; omega
    simp only [List.length_cons, List.range'_succ, List.zip_cons_cons]
    rw [fill_step _ _ k v _ rfl h1 (by simp; omega)]
    have hlen : (c.take (k * size) ++ v.cells.toList ++ c.drop (k * size + v.cells.size)).length = (k + 1 + vals.length) * size := by
      simp only [List.length_append, List.length_take, List.length_drop, Array.length_toList, h1]
      have e2 : (k + 1 + vals.length) * size = k * size + size + vals.length * size := by simp only [Nat.add_mul, Nat.one_mul]
      omega
    have ih := fill_all size vals (k + 1) _ (fun u hu => hv u (by simp [hu])) hlen
    simp only [List.toList_toArray] at ih ⊢
    rw [ih]
    congr 1
    have h2 : (k + 1) * size = (c.take (k * size) ++ v.cells.toList).length := by
      simp only [List.length_append, List.length_take, Array.length_toList, h1, Nat.add_mul, Nat.one_mul]; omega
    rw [h2, List.take_left]
    simp

theorem s_buildSlice {t : TypeId} {len : Nat} {parts : Array (Nat × Operand)} (hT : EnvTy P E) (ho : o.op = .buildSlice t len parts) (hR : opRes E S true o = some R) (sat : Sat N w0 X F S β ϕ a w) (hob : R.ob) : Snd P w0 X F S β ϕ o a w R := by
  unfold opRes at hR
  rw [ho] at hR
  simp only at hR
  split at hR
  · rename_i ti ob vs hti hvs
    split at hR
    · rename_i te hte
      split at hR
      · rename_i ob' ps hres
        cases hR
        obtain ⟨_, q2, q3, q4, q5, q6, q7, q8⟩ := hob
        obtain ⟨v1, v2⟩ := evs_sound hvs sat
        replace v1 := v1 rfl q2
        obtain ⟨v3, v4⟩ := v2 rfl q2
        have hTk := hT _ _ hti
        have hTe := hT _ _ hte
        have hu := run_und hTk w
        rw [q6] at hu
        have hsz := run_size hTe w
        obtain ⟨z, hz, hzc⟩ := run_zero hTe w
        obtain ⟨ob2, r1, r2, r3, r4, r5⟩ := resEs_sound q7 hres q3
        have hwd : te.pty.wd = te.sz := (pty_wd hTe).1
        have hvl : vs.length = len := by
          have h1 : (idxs parts.toList).length = parts.toList.length := by
            induction parts.toList with
            | nil => rfl
            | cons x l ih => obtain ⟨i, y⟩ := x; simp [idxs, ih]
          have h2 : ((oprs parts.toList).map a.eval).length = vs.length := by rw [v3]; simp [SV.vals_map]
          have h3 : (oprs parts.toList).length = parts.toList.length := by
            clear h2 h1 hvs v3 q5 q4 hres
            induction parts.toList with
            | nil => rfl
            | cons x l ih => obtain ⟨i, y⟩ := x; simp [oprs, ih]
          have h4 := congrArg List.length q4
          simp at h4 h2
          omega
        have hparts : (parts.map fun (i, x) => (i, a.eval x)).toList = (List.range' 0 (SV.vals β vs).length).zip (SV.vals β vs) := by
          rw [Array.toList_map, ← v3]
          have := parts_map parts.toList a.eval
          rw [this, q4, List.range_eq_range']
          congr 2
          have : ((oprs parts.toList).map a.eval).length = vs.length := by rw [v3]; simp [SV.vals_map]
          rw [this, hvl]
        have hcells : ∀ v ∈ SV.vals β vs, v.cells.size = te.sz := by
          intro v hv
          rw [SV.vals_map, List.mem_map] at hv
          obtain ⟨x, hx, rfl⟩ := hv
          rw [val_cells sat.hp.pl x]
          simp [SV.vals_map, r5 x hx, hwd]
        have hflat : ((SV.vals β vs).flatMap fun v => v.cells.toList) = SV.vals β (cellsAll vs) := by
          rw [SV.vals_map, List.flatMap_map]
          clear hres hvs v1 v2 v3 v4 r1 r3 r4 r5 hvl hparts hcells q8
          induction vs with
          | nil => rfl
          | cons x xs ih =>
            simp only [List.flatMap_cons, cellsAll, SV.vals_map, List.map_append] at ih ⊢
            rw [ih, val_cells sat.hp.pl x]; simp [SV.vals_map]
        have hvl2 : (SV.vals β vs).length = len := by simp [SV.vals_map, hvl]
        have hfill : ∀ zz : Array Value, Instr.fill (fun i => some (i * te.sz, te.sz)) ((Array.range (len * te.sz)).map (fun i => zz[i % zz.size]!)) ((List.range' 0 (SV.vals β vs).length).zip (SV.vals β vs)) = some (SV.vals β (cellsAll vs)).toArray := by
          intro zz
          have harr : (Array.range (len * te.sz)).map (fun i => zz[i % zz.size]!) = ((List.range (len * te.sz)).map (fun i => zz[i % zz.size]!)).toArray := by
            apply Array.ext'; simp
          have := fill_all te.sz (SV.vals β vs) 0 ((List.range (len * te.sz)).map (fun i => zz[i % zz.size]!)) hcells (by simp [hvl2])
          simp only [Nat.zero_mul, List.take_zero, List.nil_append, hflat] at this
          rw [harr]; exact this
        have hclen : (SV.vals β (cellsAll vs)).length = len * te.sz := by
          rw [SV.vals_map, List.length_map, (resLs_len r1).1, flatT_len, hvl, hwd]
        have hpos := hTe.pos
        have hlen : len ≤ 16777216 := Nat.le_trans (Nat.le_mul_of_pos_right _ hpos) q5
        have hpl : ps.length = len := by rw [r4, hvl]
        obtain ⟨ϕ1, tk⟩ := takeIn_sound (o := .dp) (hs := slsAll vs) sat.hp sat.hb (.inl rfl) q8
        have hok := oks_all v4
        have hroom : Room (w.alloc (.cells (SV.vals β (cellsAll vs)).toArray ti.el)) (.slice (some ⟨w.heap.size, 0, none⟩) len len) te.pty.wd ps.length w.heap.size (SV.vals β (cellsAll vs)) := by
          refine ⟨⟨0, len, _, ti.el, (0, 0), by rw [hpl], heap_alloc_new w _, by simp [hclen, hwd], Nat.le_of_eq hpl, by unfold maxLen; omega, by simp, by simp⟩, by rw [hclen, hpl, hwd], by rw [hpl]; unfold LIM; omega⟩
        have hfr : ∀ k, k < w.heap.size → (w.alloc (.cells (SV.vals β (cellsAll vs)).toArray ti.el)).heap[k]? = w.heap[k]? := fun k hk => alloc_old w _ hk
        have hsls : ((slsAll vs).map ϕ1).flatten = (fsOf ϕ1 (cellsAll vs)).flatten := by rw [fsOf_flat, slsAll_cells]
        obtain ⟨c1, c2⟩ := add_taken (n := S.n) (b := w.heap.size) (T := te.pty) (es := ps) (v := .slice (some ⟨w.heap.size, 0, none⟩) len len) tk sat.fr hfr (Nat.le_refl _)
          (fun hd => by
            rcases tk.how with ⟨_, e2, _⟩ | ⟨e1, _⟩
            · have hLD := resLs_own r1 r2 hok (ϕ' := ϕ1) (by rw [← slsAll_cells]; exact e2)
              have hLo : Lo w (flatT te.pty vs.length) (flatP ps) (SV.vals β (cellsAll vs)) ((slsAll vs).map ϕ1).flatten := ⟨_, hsls, loD_lo hLD (dataB_flatT q7 _)⟩
              refine .inr ⟨w.heap.size, _, _, rfl, hroom, r3, ?_⟩
              rw [r4]
              exact hLo.frame fun k hk => hfr k (tk.inb k hk)
            · rw [hd] at e1; cases e1)
          (fun hd => by
            rcases tk.how with ⟨e1, _⟩ | ⟨_, e2, _⟩
            · rw [hd] at e1; cases e1
            · have hLv := resLs_lv r1 r2 hok (ϕ' := ϕ1) (by rw [← slsAll_cells]; exact e2)
              rw [← hsls] at hLv
              refine .inr ⟨w.heap.size, _, _, rfl, hroom, r3, ?_⟩
              rw [r4]
              exact hLv.frame fun k hk => hfr k (tk.inb k hk))
        refine ⟨trivial, _, _, _, _, .inl ?_, ⟨fun _ => rfl, fun h hh => upd_lt _ _ _ hh, c1, c2, Nat.lt_succ_self _, trivial, Nat.le_succ _, sat.fr.alloc _⟩, fun h => by simp [stillP, convP, ho] at h, fun _ => (Fr.refl _ _).alloc _⟩
        have hnot : ¬ (len * te.sz > 2 ^ 24) := by omega
        simp only [execOp, ho, Instr.buildSlice, Sem.run_bind, hu, Result.andThen_ok, hsz, if_neg hnot, hparts, SV.val, upd_eq, gv]
        by_cases h0 : len * te.sz = 0
        · simp only [if_pos h0, Sem.run_bind, Sem.run_pure, Result.andThen_ok, hfill, newRow, run_newObj]
          rfl
        · simp only [if_neg h0, Sem.run_bind, Sem.run_pure, Result.andThen_ok, hz, hfill, newRow, run_newObj]
          rfl
      · cases hR
    · cases hR
  · cases hR

end
end Go.Proofs.Ytmjjdfhpnckacab
