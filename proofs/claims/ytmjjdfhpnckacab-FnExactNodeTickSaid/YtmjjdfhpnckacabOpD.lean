/-
  The operation 'load'.
  Conditions: the table of types says what the program's says.
-/
import Derived.Test.YtmjjdfhpnckacabOpC
namespace Go.Proofs.Ytmjjdfhpnckacab
set_option linter.unusedVariables false
section
variable {P : Program} {E : Env} {N : Nat} {w0 : World} {X F : List Nat} {S : St} {β : Nat → GV} {ϕ : Nat → List Nat} {a : Act} {w w' : World} {o : Oper} {R : RR} {A : Hp} {B : Nat}

theorem leaf_leaves {p : PV} (h : ∀ qs, p ≠ .agg qs) : p.leaves = [p] := by
  cases p <;> first | rfl | exact absurd rfl (h _)

theorem getD_mem {es : List PV} {i : Nat} (hi : i < es.length) : es.getD i PV.d ∈ es := by
  have : es.getD i PV.d = es[i] := by simp [hi]
  rw [this]; exact List.getElem_mem hi

theorem take_one {l : List PV} {n : Nat} (h : n < l.length) : (l.drop n).take 1 = [l.getD n PV.d] := by
  have : l.getD n PV.d = l[n] := by simp [h]
  rw [this, List.drop_eq_getElem_cons h, List.take_succ_cons, List.take_zero]

theorem etaL_eq : ∀ {ts : List PTy} {k : Nat} {A : List PV}, k + ts.length ≤ A.length → etaL k ts A = (A.drop k).take ts.length
  | [], k, A, _ => by simp [etaL]
  | t :: ts, k, A, h => by
    simp only [List.length_cons] at h
    have e : A.getD k PV.d = A[k] := by
      have : k < A.length := by omega
      simp [this]
    rw [etaL, etaL_eq (by omega), e, List.drop_eq_getElem_cons (by omega : k < A.length), List.length_cons, List.take_succ_cons]

/-- What loadEl gives are the leaves that lie there. -/
theorem loadEl_leaves {T : PTy} {es : List PV} {i off : Nat} {ti : TI} (hS : ∀ e ∈ es, Shp T e) (hi : i < es.length) (hle : off + ti.sz ≤ T.wd) (h1 : ti.agg = false → ti.sz = 1)
    (hag : aggOk T ti.agg) :
    (ti.agg = true → loadEl T es i off ti = .agg (((es.getD i PV.d).leaves.drop off).take ti.sz)) ∧ (ti.agg = false → [loadEl T es i off ti] = ((es.getD i PV.d).leaves.drop off).take ti.sz) := by
  have hs := hS _ (getD_mem hi)
  have hel := leaves_len hs
  have key : ∀ e : PV, e = es.getD i PV.d → Shp T e → e.leaves.length = T.wd → 
    (ti.agg = true → loadEl T es i off ti = .agg ((e.leaves.drop off).take ti.sz)) ∧ (ti.agg = false → [loadEl T es i off ti] = (e.leaves.drop off).take ti.sz) := by
    intro e he hs hel
    cases T with
    | agg ts =>
      obtain ⟨qs, rfl, hq⟩ := hs
      simp only [PV.leaves] at hel ⊢
      constructor
      · intro hA
        simp only [loadEl, hA, if_true, ← he, PV.A]
        rw [etaL_eq (by simp only [TI.sz] at hle; omega)]
        rfl
      · intro hA
        simp only [loadEl, hA, Bool.false_eq_true, if_false, ← he]
        rw [h1 hA, take_one (by have := h1 hA; omega)]
        rfl
    | _ =>
      constructor
      · intro hA; simp [aggOk, hA] at hag
      · intro hA
        have h0 : ∀ qs, e ≠ .agg qs := by simpa [Shp] using hs
        have hoff : off = 0 := by
          have := h1 hA
          simp only [PTy.wd, PTy.leaves, List.length_singleton] at hle
          omega
        rw [leaf_leaves h0, h1 hA, hoff]
        simp only [loadEl, ← he, List.drop_zero]
        rfl
  exact key _ rfl hs hel

/-- A value of a type, by its leaves. -/
def ByLeaves (T : PTy) (p : PV) (x : SV) (Ts : List PTy) (ps : List PV) (xs : List SV) : Prop :=
  (T = .agg Ts ∧ p = .agg ps ∧ x = .agg xs) ∨ (Ts = [T] ∧ ps = [p] ∧ xs = [x] ∧ ∀ ts, T ≠ .agg ts)

theorem introV_by {T : PTy} {p : PV} {Ts : List PTy} {ps : List PV} {n j : Nat} {o : Own} {q : Nat → Pth} (h : (T = .agg Ts ∧ p = .agg ps) ∨ (Ts = [T] ∧ ps = [p] ∧ ∀ ts, T ≠ .agg ts)) :
    (introV o q j n T p).2 = (introL o q j n Ts ps).2 ∧ ByLeaves T p (introV o q j n T p).1 Ts ps (introL o q j n Ts ps).1 := by
  rcases h with ⟨rfl, rfl⟩ | ⟨rfl, rfl, hne⟩
  · exact ⟨rfl, .inl ⟨rfl, rfl, rfl⟩⟩
  · have he : introV o q j n T p = ((introL o q j n [T] [p]).1.headD .nilp, (introL o q j n [T] [p]).2.1, (introL o q j n [T] [p]).2.2) := by
      cases T <;> first | rfl | exact absurd rfl (hne _)
    obtain ⟨x, hx⟩ : ∃ x, (introL o q j n [T] [p]).1 = [x] := by
      cases T <;> simp [introL]
    rw [he]
    exact ⟨rfl, .inr ⟨rfl, rfl, by simp [hx], hne⟩⟩

theorem byl_lt {T : PTy} {p : PV} {x : SV} {Ts ps xs} {n : Nat} (h : ByLeaves T p x Ts ps xs) (hl : SV.lts n xs) : SV.lt n x := by
  rcases h with ⟨_, _, rfl⟩ | ⟨_, _, rfl, _⟩
  · exact hl
  · exact hl.1
theorem byl_ok {T : PTy} {p : PV} {x : SV} {Ts ps xs} (h : ByLeaves T p x Ts ps xs) (hl : SV.oks β xs) : SV.ok β x := by
  rcases h with ⟨_, _, rfl⟩ | ⟨_, _, rfl, _⟩
  · exact hl
  · exact hl.1

/-- The run of a load out of an element. -/
theorem run_loadEl {t : TypeId} {x : Operand} {ti : TI} {T : PTy} {es : List PV} {i off wd b o' : Nat} {c : Array Value} {t' : TypeId} {fr : Nat × Nat} {cs : List Value} {f1 : List Nat} {L : List PTy → List PV → List Value → List Nat → Prop} (hL0 : LOk w L) (hTk : TIok P t ti) (ho : o.op = .load t x)
    (hblk : w.heap[b]? = some (.cells c t' fr)) (hS : ∀ e ∈ es, Shp T e) (hL : L (flatT T es.length) (flatP es) cs f1) (hc : (c.toList.drop o').take cs.length = cs)
    (hlen : off + ti.sz ≤ T.wd) (q2 : wd = T.wd) (q3 : leafAt T off ti.sz = ti.leaves) (q4 : i < es.length) (q5 : aggOk T ti.agg) (x3 : a.eval x = .pointer (some ⟨b, o' + i * wd + off, none⟩)) :
    ∃ v1 v2 v3 g1 g2 g3 ps, cs = v1 ++ v2 ++ v3 ∧ f1 = g1 ++ g2 ++ g3 ∧ v1.length = i * T.wd + off ∧ v2.length = ti.sz ∧ ps = ((es.getD i PV.d).leaves.drop off).take ti.sz ∧ L ti.leaves ps v2 g2 ∧
      L (flatT T i ++ T.leaves.take off) (flatP (es.take i) ++ (es.getD i PV.d).leaves.take off) v1 g1 ∧ L (T.leaves.drop (off + ti.sz) ++ flatT T (es.length - (i + 1))) ((es.getD i PV.d).leaves.drop (off + ti.sz) ++ flatP (es.drop (i + 1))) v3 g3 ∧
      ((ti.pty = .agg ti.leaves ∧ loadEl T es i off ti = .agg ps) ∨ (ti.leaves = [ti.pty] ∧ ps = [loadEl T es i off ti] ∧ ∀ ts, ti.pty ≠ .agg ts)) ∧ (loadEl T es i off ti).leaves = ps ∧
      (∀ y : Nat, y < ti.sz → c[o' + (i * T.wd + off + y)]? = v2[y]?) ∧
      ∀ w1, Fr w [] w1 → ∀ (x : SV) (xs : List SV) (β : Nat → GV), ByLeaves ti.pty (loadEl T es i off ti) x ti.leaves ps xs → SV.vals β xs = v2 → (execOp a.eval o).run P w1 = .ok (.value (SV.val β x)) w1 := by
  obtain ⟨e1, e2⟩ := loadEl_leaves hS q4 hlen hTk.one q5
  obtain ⟨v1, v2, v3, g1, g2, g3, rfl, rfl, hl1, hl2, hL1, hL2, hL3⟩ := elem_split hL0 hL hS q4 hlen
  rw [q3] at hL2
  have hLv := hL0.lv hL2
  have hcase : (ti.pty = .agg ti.leaves ∧ loadEl T es i off ti = .agg (((es.getD i PV.d).leaves.drop off).take ti.sz)) ∨ (ti.leaves = [ti.pty] ∧ ((es.getD i PV.d).leaves.drop off).take ti.sz = [loadEl T es i off ti] ∧ ∀ ts, ti.pty ≠ .agg ts) := by
    cases hA : ti.agg with
    | true => exact .inl ⟨by simp [TI.pty, hA], e1 hA⟩
    | false =>
      have h1 : ti.leaves.length = 1 := hTk.one hA
      obtain ⟨y, hy⟩ := List.length_eq_one_iff.1 h1
      refine .inr ⟨by simp [TI.pty, hA, hy], (e2 hA).symm, ?_⟩
      intro ts hts
      simp [TI.pty, hA, hy] at hts
      have := hTk.lf y (by simp [hy])
      subst hts
      exact absurd hLv (by rw [hy]; intro hh; cases hh)
  have hag := run_isAgg hTk
  have hsz := run_size hTk
  have hcl : c.toList.length = c.size := by simp
  have hdrop : (c.toList.drop (o' + i * wd + off)).take ti.sz = v2 := by
    have h1 := hc
    rw [q2]
    have h3 : ((c.toList.drop o').take (v1 ++ v2 ++ v3).length).drop (i * T.wd + off) = v2 ++ v3 := by
      rw [h1, ← hl1]; simp
    rw [List.drop_take, List.drop_drop] at h3
    have h4 := congrArg (List.take ti.sz) h3
    rw [List.take_take] at h4
    have h5 : min ti.sz ((v1 ++ v2 ++ v3).length - (i * T.wd + off)) = ti.sz := by
      simp only [List.length_append]; omega
    rw [h5] at h4
    rw [← hl2] at h4 ⊢
    simp only [List.take_left] at h4
    rw [← h4]
    congr 2; omega
  have hbnd : o' + i * wd + off + ti.sz ≤ c.size := by
    have h1 := congrArg List.length hdrop
    rw [hl2, List.length_take, List.length_drop, hcl] at h1
    have := hTk.pos
    omega
  refine ⟨v1, v2, v3, g1, g2, g3, _, rfl, rfl, hl1, hl2, rfl, hL2, hL1, hL3, hcase, ?_, ?_, ?_⟩
  · rcases hcase with ⟨_, h⟩ | ⟨_, h, _⟩
    · rw [h]; rfl
    · rw [h, leaf_leaves]
      have := hLv.leaves_of (loadEl T es i off ti) (by rw [h]; simp)
      exact this
  · intro y hy
    have := congrArg (fun l => l[y]?) hdrop
    simp only [List.getElem?_take, if_pos hy, List.getElem?_drop, Array.getElem?_toList] at this
    rw [← this, q2]; congr 1; omega
  · intro w1 hw1 x xs β hby hvs
    have hblk1 := (hw1.block b (Array.getElem?_eq_some_iff.1 hblk).1 (by simp)).trans hblk
    rcases hby with ⟨b1, b2, b3⟩ | ⟨b1, b2, b3, b4⟩
    · have hA : ti.agg = true := by
        cases hA : ti.agg with
        | true => rfl
        | false =>
          rcases hcase with ⟨_, hc2⟩ | ⟨_, _, hc3⟩
          · have := e2 hA
            rw [hc2] at this
            have h7 := hLv.leaves_of (loadEl T es i off ti) (by rw [← this, hc2]; simp)
            exact absurd hc2 (h7 _)
          · exact absurd b1 (hc3 _)
      have hlc := run_loadCells_row (P := P) b (o' + i * wd + off) ti.sz c t' fr hblk1 hbnd
      rw [hdrop] at hlc
      simp only [execOp, ho, Instr.loadAt, Instr.sureAddr, loadVar, Sem.run_bind, Sem.run_pure, Result.andThen_ok, x3, hag, hsz, hA, if_true, hlc, b3, SV.val, hvs]
    · have hA : ti.agg = false := by
        cases hA : ti.agg with
        | false => rfl
        | true => exact absurd (by simp [TI.pty, hA]) (b4 ti.leaves)
      subst b3
      have hcell : w1.cell? ⟨b, o' + i * wd + off, none⟩ = some (SV.val β x) := by
        rw [cell_of_row w1 b _ c t' fr hblk1]
        have h1 := hTk.one hA
        simp only [SV.vals] at hvs
        rw [h1, ← hvs] at hdrop
        have h2 := congrArg (fun l => l[0]?) hdrop
        simpa using h2
      simp only [execOp, ho, Instr.loadAt, Instr.sureAddr, loadVar, Sem.run_bind, Sem.run_pure, Result.andThen_ok, x3, hag, hA, Bool.false_eq_true, if_false, run_load, hcell]

theorem loadHy_case {Ts : List PTy} {ps : List PV} {p : PV} {vs : List Value} {f : List Nat} (hL : Lv w Ts ps vs f) (hp : p.leaves = ps) : loadHy Ts p.leaves := by
  rw [hp]; exact loadHy_sound hL

/-- What lies in an element of an owned array is found by its path. -/
theorem pths_el {rs : List Nat} {h i b o' : Nat} {T : PTy} {es : List PV} {p : Pth} {c : Array Value} {t' : TypeId} {fr : Nat × Nat} (hl : lk A h = some (.arr .dp T es p)) (hr : h ∈ rs) (q4 : i < es.length) (haddr : addrOf (β h).v = some (b, o')) (hblk : w.heap[b]? = some (.cells c t' fr)) :
    ∀ (Ts : List PTy) (ps : List PV) (vs : List Value) (j : Nat), (∀ y t, Ts[y]? = some t → T.leaves[j + y]? = some t) → (∀ y q, ps[y]? = some q → (es.getD i PV.d).leaves[j + y]? = some q) → (∀ y v, vs[y]? = some v → c[o' + (i * T.wd + j + y)]? = some v) →
      PthsOk A β w rs (elP h i) j Ts ps vs := by
  intro Ts
  induction Ts with
  | nil => intro ps vs j _ _ _; simp [PthsOk]
  | cons t Ts ih =>
    intro ps vs j h1 h2 h3
    cases ps with
    | nil => simp [PthsOk]
    | cons q ps => cases vs with
      | nil => simp [PthsOk]
      | cons v vs =>
        have ih' := ih ps vs (j + 1) (fun y t hy => by have := h1 (y + 1) t (by simpa using hy); rwa [show j + (y + 1) = j + 1 + y by omega] at this) (fun y t hy => by have := h2 (y + 1) t (by simpa using hy); rwa [show j + (y + 1) = j + 1 + y by omega] at this)
          (fun y t hy => by have := h3 (y + 1) t (by simpa using hy); rwa [show o' + (i * T.wd + j + (y + 1)) = o' + (i * T.wd + (j + 1) + y) by omega] at this)
        cases t <;> cases q <;> simp only [PthsOk] <;> first | exact ih' | skip
        refine ⟨⟨hr, T, es, p, hl, q4, by simpa using h1 0 _ rfl, by simpa using h2 0 _ rfl, b, o', c, t', fr, haddr, hblk, by simpa [gv] using h3 0 _ rfl⟩, ih'⟩

theorem viewOk_of {h : Nat} {hl : HL} {g : List Nat} {n : Nat} (hp : Holds B X F A β ϕ w) (hb : Bd n β A) (hh : lk A h = some hl) (hd : isA hl) (hs : ∀ b ∈ g, b ∈ ϕ h) {rs : List Nat} (hrs : ∀ r ∈ roots hl, r ∈ rs) (hrs2 : ∀ r ∈ rs, r = h ∨ r ∈ roots hl) (hown : h ∈ rs ∨ ∀ b ∈ owned (ϕ h) hl, b ∉ g) (hbx : ∀ o t cs, hl ≠ .box o t cs) : ViewOk B F A ϕ n g rs := by
  refine ⟨?_, fun b hb' => hp.all h hl hh hd b (hs b hb'), ?_, ?_⟩
  · intro i hl' hi hn b hb' hm
    by_cases hih : i = h
    · subst hih
      rw [hh] at hi; cases hi
      rcases hown with h1 | h1
      · exact hn h1
      · exact h1 b hb' hm
    · exact hp.dj i h hl' hl hi hh hih (fun hr => hn (hrs i hr)) (by intro e; subst e; exact hd) b hb' (hs b hm)
  · intro r hr o t cs hc
    rcases hrs2 r hr with rfl | h1
    · rw [hh] at hc; cases hc; exact hbx _ _ _ rfl
    · exact hp.rt h hl hh r h1 o t cs hc
  · intro r hr
    rcases hrs2 r hr with rfl | h1
    · exact (hb _ _ hh).1
    · have := (hb _ _ hh).2
      cases hl with
      | arr o T es p =>
        cases o <;> simp only [roots, List.not_mem_nil] at h1
        exact this r h1
      | _ => simp [roots] at h1

theorem s_load {t : TypeId} {x : Operand} (hT : EnvTy P E) (ho : o.op = .load t x) (hR : opRes E S true o = some R) (sat : Sat N w0 X F S β ϕ a w) (hob : R.ob) : Snd P w0 X F S β ϕ o a w R := by
  unfold opRes at hR
  rw [ho] at hR
  simp only at hR
  split at hR
  · rename_i g' h off ti hx hti
    split at hR
    · rename_i ow bt cs hl
      split at hR
      · rename_i hlen
        have key := fun hg => s_loadBox (P := P) hT ho hx hti hl hlen sat hg
        obtain ⟨hbd, hlt⟩ := sat.hb _ _ hl
        obtain ⟨hlt1, hok1⟩ := hlt
        split at hR
        · rename_i hA
          cases hR
          refine snd_pure sat trivial ((key (hob rfl)).1 hA) ?_ ?_
          · show SV.lts _ _
            rw [SV.lts_iff] at hlt1 ⊢
            exact fun y hy => hlt1 y (List.mem_of_mem_drop (List.mem_of_mem_take hy))
          · show SV.oks _ _
            rw [SV.oks_iff] at hok1 ⊢
            exact fun y hy => hok1 y (List.mem_of_mem_drop (List.mem_of_mem_take hy))
        · rename_i hA
          split at hR
          · rename_i v hv
            cases hR
            have hm := List.mem_of_getElem? hv
            exact snd_pure sat trivial ((key (hob rfl)).2 (by simpa using hA) v hv) (SV.lts_iff.1 hlt1 v hm) (SV.oks_iff.1 hok1 v hm)
          · cases hR
      · cases hR
    · cases hR
  · rename_i g' h i wd off ti hx hti
    have hTk := hT _ _ hti
    obtain ⟨x1, x2⟩ := ev_sound hx sat
    split at hR
    · -- taken out of what is given away
      rename_i k T es p hl
      split at hR
      · rename_i hoff
        obtain ⟨rfl, hsz⟩ := hoff
        cases hR
        obtain ⟨_, q1, q2, q3, q4, q5, q6, q7⟩ := hob
        replace x1 := x1 q1
        obtain ⟨x3, bx, ox, hbx⟩ := x2 q1
        rw [val_elp hbx] at x3
        rcases sat.hp.sat _ _ hl with ⟨rfl, _⟩ | ⟨b, f1, c1, c2, hϕ, ⟨⟨o', cap, c, t', fr, hv, hblk, hcap, hle, hmx, hfz, hcs⟩, hlen, hlim⟩, hc1, hS, hL⟩
        · simp at q4
        rw [hv] at hbx
        simp only [addrOf, Option.some.injEq, Prod.mk.injEq] at hbx
        obtain ⟨rfl, rfl⟩ := hbx
        -- the part from k on
        have hmin : min k es.length = k := by omega
        rw [hmin] at hc1
        have hS2 : ∀ e ∈ es.drop k, Shp T e := fun e he => hS e (List.mem_of_mem_drop he)
        have hdl : (es.drop k).length = es.length - k := by simp
        have hgd : (es.drop k).getD (i - k) PV.d = es.getD i PV.d := by
          simp only [List.getD_eq_getElem?_getD, List.getElem?_drop]; congr 2; omega
        have hc2 : (c.toList.drop (o' + k * T.wd)).take c2.length = c2 := by
          rw [← List.drop_drop]
          have h1 := congrArg (List.drop (k * T.wd)) hcs
          rw [List.drop_take, ← hc1] at h1
          simp only [List.drop_left] at h1
          rw [hc1] at h1
          have e : (c1 ++ c2).length - k * T.wd = c2.length := by simp only [List.length_append, hc1]; omega
          rwa [e] at h1
        have x4 : a.eval x = .pointer (some ⟨b, (o' + k * T.wd) + (i - k) * wd + 0, none⟩) := by
          rw [x3, q2]
          have : i * T.wd = k * T.wd + (i - k) * T.wd := by rw [← Nat.add_mul]; congr 1; omega
          rw [this]; congr 3; omega
        have hlf : leafAt T 0 ti.sz = ti.leaves := by
          rw [hsz, leafAt, List.drop_zero, ← q3, PTy.wd, List.take_length]
        have hel : loadEl T (es.drop k) (i - k) 0 ti = loadEl T es i 0 ti := by
          unfold loadEl; rw [hgd]
        obtain ⟨v1, v2, v3, g1, g2, g3, ps, rfl, rfl, hl1, hl2, hps, hL2, hL1, hL3, hcase, hlv, hcell, hrun⟩ := run_loadEl (lok_lo w) hTk ho hblk hS2 (by rw [hdl]; exact hL) hc2 (by omega) q2 hlf (by rw [hdl]; omega) q6 x4
        rw [hel] at hcase hlv hrun
        obtain ⟨fs2, rfl, hL2⟩ := hL2
        have hLD : LoD w ti.leaves ps v2 fs2 := hL2.mono fun v T es f _ h => ownF_D h
        have hnd : (ϕ h).Nodup := sat.hp.nd _ _ hl
        rw [hϕ] at hnd
        -- the array without what is taken
        have hnd2 : (g1 ++ fs2.flatten ++ g3).Nodup := (List.nodup_cons.1 hnd).2
        have hbn := (List.nodup_cons.1 hnd).1
        obtain ⟨m1, m2, m3⟩ := List.nodup_append.1 hnd2
        obtain ⟨m4, m5, m6⟩ := List.nodup_append.1 m1
        have e3 : (es.drop k).drop (i - k + 1) = es.drop (i + 1) := by rw [List.drop_drop]; congr 1; omega
        have hnew : OwnC w (i + 1) (β h).v T es (b :: g3) := by
          refine .inr ⟨b, g3, c1 ++ v1 ++ v2, v3, rfl, ⟨⟨o', cap, c, t', fr, hv, hblk, hcap, hle, hmx, hfz, by simpa [List.append_assoc] using hcs⟩, by simpa [List.append_assoc] using hlen, hlim⟩, ?_, hS, ?_⟩
          · simp only [List.length_append, hc1, hl1, hl2, hsz]
            have : min (i + 1) es.length = i + 1 := by omega
            rw [this]
            have e : (i + 1) * T.wd = k * T.wd + (i - k) * T.wd + T.wd := by
              rw [← Nat.add_mul, Nat.add_mul, Nat.one_mul]; congr 2; omega
            rw [e]; omega
          · have h8 := hL3
            rw [show T.leaves.drop (0 + ti.sz) = [] by rw [hsz]; simp [PTy.wd], List.nil_append, hgd, hdl, e3] at h8
            have h9 : (es.getD i PV.d).leaves.drop (0 + ti.sz) = [] := by
              have := leaves_len (hS _ (getD_mem q4))
              rw [List.drop_eq_nil_iff]; omega
            rw [h9, List.nil_append] at h8
            rw [show es.length - (i + 1) = es.length - k - (i - k + 1) by omega]
            exact h8
        have hst := sat.hp.struck [h]
        have hbst := strike_bd sat.hb [h]
        have hG : ∀ bb ∈ ϕ h, ∃ i' ∈ [h], ∃ hl', lk S.A i' = some hl' ∧ bb ∈ owned (ϕ i') hl' := fun bb hbb => ⟨h, by simp, _, hl, by simpa [owned] using hbb⟩
        have ap := strike_apart (G := ϕ h) sat.hp hG
        have hsubϕ : ∀ bb ∈ b :: g3, bb ∈ ϕ h := by
          intro bb hbb
          rw [hϕ]
          rcases List.mem_cons.1 hbb with rfl | hbb
          · simp
          · simp [hbb]
        have hput := hst.put (A' := set1 (strike [h] S.A) h (.arr (.cs (i + 1)) T es .no)) (n := h) (hl0 := .arr (.cs (i + 1)) T es .no) (f := b :: g3) (fun j => lk_set1' _ _ _) (fun hl' hi => strike_dead (by simp) hi) hnew
          (fun bb hbb => sat.hp.own _ _ hl bb (by simpa [owned] using hsubϕ bb hbb)) (fun _ bb hbb => sat.hp.all _ _ hl trivial bb (hsubϕ bb hbb))
          (by refine List.nodup_cons.2 ⟨fun hm => hbn (by simp [hm]), m2⟩) (ap.mono fun bb hbb => hsubϕ bb (owned_sub bb hbb))
          (fun i' hl' hi' _ bb hbb hm => by
            by_cases hd : hl' = .dead
            · subst hd; simp [owned] at hbb
            · exact ap i' hl' hi' hd bb (owned_sub bb hbb) (hsubϕ bb hm)) trivial (fun _ _ _ e => by cases e) (by simp [roots])
        have hbput := bd_put (A' := set1 (strike [h] S.A) h (.arr (.cs (i + 1)) T es .no)) hbst (fun j => lk_set1' _ _ _) (sat.hb _ _ hl).1 (show HL.ltOk S.n β (.arr (.cs (i + 1)) T es .no) from trivial)
        have hsub2 : ∀ bb ∈ fs2.flatten, bb ∈ ϕ h := fun bb hbb => by rw [hϕ]; simp [hbb]
        have ap2 : Apart (set1 (strike [h] S.A) h (.arr (.cs (i + 1)) T es .no)) (upd ϕ h (b :: g3)) (fs2.flatten ++ []) := by
          refine apart_put (ap.mono fun bb hbb => hsub2 bb (by simpa using hbb)) (fun j => lk_set1' _ _ _) ?_
          intro bb hbb hm
          simp only [List.append_nil] at hm
          rcases List.mem_cons.1 hbb with rfl | hbb
          · exact hbn (by simp [hm])
          · exact m3 bb (by simp [hm]) bb hbb rfl
        obtain ⟨β', ϕ', lay⟩ := introL_own noP (fun _ => rfl) ti.leaves ps v2 fs2 [] 0 S.n _ β _ hLD hput hbput (by simpa using m5) (fun bb hbb => ⟨sat.hp.own _ _ hl bb (by simpa [owned] using hsub2 bb hbb), sat.hp.all _ _ hl trivial bb (hsub2 bb hbb)⟩) ap2
        obtain ⟨hi1, hi2⟩ := introV_by (n := S.n) (j := 0) (o := .dp) (q := noP) hcase
        simp only [Prod.ext_iff] at hi1
        refine ⟨loadHy_case (Lo.lv ⟨fs2, rfl, hL2⟩) hlv, _, w, β', ϕ', .inl (hrun w (Fr.refl _ _) _ _ β' hi2 lay.vals), ⟨fun _ => rfl, lay.bt, ?_, ?_, ?_, byl_ok hi2 lay.oks, ?_, sat.fr⟩, fun _ => ⟨rfl, hrun w (Fr.refl _ _) _ _ β' hi2 lay.vals, .inr fun w1 hw1 => hrun w1 hw1 _ _ β' hi2 lay.vals⟩, fun _ => Fr.refl _ _⟩
        · rw [hi1.1]; exact lay.hp
        · rw [hi1.1, hi1.2]; exact lay.hb
        · rw [hi1.2]; exact byl_lt hi2 lay.lts
        · rw [hi1.2]; exact lay.le
      · cases hR
    · -- out of what is read or owned
      rename_i ow T es p hncs hl
      have hnc : ∀ k, ow ≠ .cs k := fun k e => hncs k (by rw [e])
      split at hR
      · rename_i hlen
        cases hR
        obtain ⟨hob1, hob2⟩ := hob
        obtain ⟨q1, q2, q3, q4, q5⟩ := hob1 rfl
        replace x1 := x1 q1
        obtain ⟨x3, bx, ox, hbx⟩ := x2 q1
        rw [val_elp hbx] at x3
        obtain ⟨b, o', cap, c, t', fr, cs, f1, hv, hϕ, hblk, hS, hle, hL, hc⟩ := lv_sl (hl_lv sat hl hnc) (by omega)
        have haddr : addrOf (β h).v = some (b, o') := by rw [hv]; rfl
        rw [haddr] at hbx
        simp only [Option.some.injEq, Prod.mk.injEq] at hbx
        obtain ⟨rfl, rfl⟩ := hbx
        obtain ⟨v1, v2, v3, g1, g2, g3, ps, rfl, rfl, hl1, hl2, hps, hL2, _, _, hcase, hlv, hcell, hrun⟩ := run_loadEl (lok_lv w) hTk ho hblk hS hL hc hlen q2 q3 q4 q5 x3
        have hsub : ∀ b' ∈ g2, b' ∈ ϕ h := fun b' hb' => by rw [hϕ]; simp [hb']
        obtain ⟨rs, hrs⟩ : ∃ rs, viewE ow h = .vw rs := by
          cases ow <;> first | exact ⟨_, rfl⟩ | exact absurd rfl (hnc _)
        have hview : ViewOk w0.heap.size F S.A ϕ S.n g2 rs := by
          refine viewOk_of sat.hp sat.hb hl trivial hsub ?_ ?_ ?_ (by simp)
          · cases ow <;> simp only [viewE, Own.vw.injEq] at hrs <;> subst hrs <;> simp [roots]
          · cases ow <;> simp only [viewE, Own.vw.injEq] at hrs <;> subst hrs <;> simp [roots] <;> exact fun r hr => .inr hr
          · cases ow with
            | vw rs' => right; simp [owned]
            | sh =>
              right
              intro b' hb' hm
              have := sat.hp.nd _ _ hl b _ hϕ
              rw [hϕ] at hb'
              simp only [owned, List.take_succ_cons, List.take_zero, List.mem_singleton] at hb'
              subst hb'
              exact this (by simp [hm])
            | dp => left; simp only [viewE, Own.vw.injEq] at hrs; subst hrs; simp
            | cs k => exact absurd rfl (hnc k)
        have hpths : PthsOk S.A β w rs (pathE ow h i) off ti.leaves ps v2 := by
          cases ow with
          | dp =>
            simp only [viewE, Own.vw.injEq] at hrs
            subst hrs
            refine pths_el hl (by simp) q4 haddr hblk _ _ _ _ ?_ ?_ ?_
            · intro y t hy
              rw [← q3] at hy
              simp only [leafAt, List.getElem?_take, List.getElem?_drop] at hy
              split at hy
              · exact hy
              · cases hy
            · intro y q hy
              rw [hps] at hy
              simp only [List.getElem?_take, List.getElem?_drop] at hy
              split at hy
              · exact hy
              · cases hy
            · intro y v hy
              have hy2 : y < ti.sz := by rw [← hl2]; exact (List.getElem?_eq_some_iff.1 hy).1
              rw [hcell y hy2]; exact hy
          | _ => exact pthsOk_no
        obtain ⟨β', ϕ', a1, a2, a3, a5, a6, a7, a8, a9⟩ := introL_view rs (pathE ow h i) ti.leaves ps v2 g2 off S.n S.A β ϕ hL2 sat.hp sat.hb hview hpths
        rw [hrs]
        obtain ⟨hi1, hi2⟩ := introV_by (n := S.n) (j := off) (o := .vw rs) (q := pathE ow h i) hcase
        simp only [Prod.ext_iff] at hi1
        refine ⟨loadHy_case hL2 hlv, _, w, β', ϕ', .inl (hrun w (Fr.refl _ _) _ _ β' hi2 a5), ⟨fun _ => rfl, a3, ?_, ?_, ?_, byl_ok hi2 a7, ?_, sat.fr⟩, fun _ => ⟨rfl, hrun w (Fr.refl _ _) _ _ β' hi2 a5, .inr fun w1 hw1 => hrun w1 hw1 _ _ β' hi2 a5⟩, fun _ => Fr.refl _ _⟩
        · rw [hi1.1]; exact a1
        · rw [hi1.1, hi1.2]; exact a2
        · rw [hi1.2]; exact byl_lt hi2 a6
        · rw [hi1.2]; exact a8
      · cases hR
    · -- out of an array
      rename_i ow T es hl
      split at hR
      · rename_i hlen
        cases hR
        obtain ⟨q1, q2, q3, q4, q5, q6⟩ := hob rfl
        replace x1 := x1 q1
        obtain ⟨x3, bx, ox, hbx⟩ := x2 q1
        rw [val_elp hbx] at x3
        obtain ⟨_, hS, b, t', c, hv, hϕ, hblk, hL⟩ := sat.hp.sat _ _ hl
        have haddr : addrOf (β h).v = some (b, 0) := by rw [hv]; rfl
        rw [haddr] at hbx
        simp only [Option.some.injEq, Prod.mk.injEq] at hbx
        obtain ⟨rfl, rfl⟩ := hbx
        obtain ⟨v1, v2, v3, g1, g2, g3, ps, hcs, hf, hl1, hl2, hps, hL2, _, _, hcase, hlv, hcell, hrun⟩ := run_loadEl (lok_lv w) hTk ho hblk hS hL (show (c.toList.drop 0).take c.toList.length = c.toList by rw [List.drop_zero, List.take_length]) hlen q2 q3 q4 q5 x3
        obtain ⟨a1, a2, a3, a4⟩ := introL_flat (β := β) .dp noP hL2 (flatLs_iff.1 q6) off S.n
        obtain ⟨hi1, hi2⟩ := introV_by (n := S.n) (j := off) (o := .dp) (q := noP) hcase
        exact snd_pure sat (loadHy_case hL2 hlv) (hrun w (Fr.refl _ _) _ _ β hi2 a2) (byl_lt hi2 (a3 _)) (byl_ok hi2 a4)
      · cases hR
    · cases hR
  · cases hR

end
end Go.Proofs.Ytmjjdfhpnckacab
