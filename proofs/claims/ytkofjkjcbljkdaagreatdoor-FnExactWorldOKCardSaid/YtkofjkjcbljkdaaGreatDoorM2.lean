/-
  Part 2 of the proof of FnExactWorldOK: a verification-condition generator over the program and the contracts of its functions, in the order of their use.
  Conditions: none.
-/
import Derived.Test.YtkofjkjcbljkdaaGreatDoorM1
set_option linter.unusedVariables false
set_option linter.unusedSimpArgs false
set_option linter.unusedSectionVars false

section
namespace Go.Proofs.YtkofjkjcbljkdaaGreatDoor
variable [LaidG]
set_option linter.unusedVariables false
section
variable {P : Program} {E : Env} {N : Nat} {w0 : World} {X F : List Nat} {S : St} {β : Nat → GV} {ϕ : Nat → List Nat} {a : Act} {w w' : World} {o : Oper} {R : RR} {A : Hp} {B : Nat}
def gv (v : Value) : GV := ⟨v, [], []⟩
theorem zeroSVs_map (ts : List PTy) : zeroSVs ts = ts.map zeroSV := by
  induction ts with
  | nil => rfl
  | cons t ts ih => simp [zeroSVs, ih]
theorem zeroLfs_map (ts : List PTy) : zeroLfs ts = ts.map zeroLf := by
  induction ts with
  | nil => rfl
  | cons t ts ih => simp [zeroLfs, ih]
theorem add_empty {n : Nat} {T : PTy} {a : Option Addr} (hp : Holds B X F A β ϕ w) (hb : Bd n β A) :
    Holds B X F ((n, .arr .dp T [] .no) :: A) (upd β n (gv (.slice a 0 0))) (upd ϕ n []) w ∧ Bd (n + 1) (upd β n (gv (.slice a 0 0))) ((n, .arr .dp T [] .no) :: A) := by
  refine ⟨hp.add hb rfl (.inl ⟨rfl, rfl, a, rfl⟩) (by simp [owned]) (by simp) (by simp [ndOk]) ?_ (by simp) trivial (by simp [roots]) (by simp [roots]), hb_add hb trivial⟩
  intro i hl hi hd b hb' hm
  simp [owned] at hm
theorem fixL_sound : ∀ (ts : List PTy) (xs : List SV) (n : Nat) (A : Hp) (β : Nat → GV) (ϕ : Nat → List Nat), Holds B X F A β ϕ w → Bd n β A → SV.lts n xs → SV.oks β xs →
    ∃ β' ϕ', Holds B X F ((fixL n ts xs).2.1 ++ A) β' ϕ' w ∧ Bd (fixL n ts xs).2.2 β' ((fixL n ts xs).2.1 ++ A) ∧ (∀ k, k < n → β' k = β k) ∧ (∀ k, k < n → ϕ' k = ϕ k) ∧
      SV.vals β' (fixL n ts xs).1 = SV.vals β xs ∧ SV.lts (fixL n ts xs).2.2 (fixL n ts xs).1 ∧ SV.oks β' (fixL n ts xs).1 ∧ n ≤ (fixL n ts xs).2.2 ∧ (fixL n ts xs).1.length = xs.length ∧ (∀ k, k < n → lk ((fixL n ts xs).2.1 ++ A) k = lk A k)
  | [], xs, n, A, β, ϕ, h, hb, hl, hk => by
    have : fixL n [] xs = (xs, [], n) := by cases xs <;> rfl
    rw [this]
    exact ⟨β, ϕ, h, hb, fun _ _ => rfl, fun _ _ => rfl, rfl, hl, hk, Nat.le_refl _, rfl, fun _ _ => rfl⟩
  | t :: ts, [], n, A, β, ϕ, h, hb, hl, hk => by
    have : fixL n (t :: ts) [] = ([], [], n) := by cases t <;> rfl
    rw [this]
    exact ⟨β, ϕ, h, hb, fun _ _ => rfl, fun _ _ => rfl, rfl, hl, hk, Nat.le_refl _, rfl, fun _ _ => rfl⟩
  | t :: ts, x :: xs, n, A, β, ϕ, h, hb, hl, hk => by
    by_cases hc : ∃ T, t = .list T ∧ x = .nils
    · obtain ⟨T, rfl, rfl⟩ := hc
      obtain ⟨h1, h2⟩ := add_empty (T := T) (a := none) h hb
      have hl' := SV.lts_mono (Nat.le_succ n) xs hl.2
      have hcg : ∀ k, k < n → upd β n (gv (.slice none 0 0)) k = β k := fun k hk => upd_lt _ _ _ hk
      obtain ⟨β', ϕ', a1, a2, a3, a4, a5, a6, a7, a8, a9, a10⟩ := fixL_sound ts xs (n + 1) _ _ _ h1 h2 hl' (SV.oks_congr hcg xs hl.2 hk.2)
      refine ⟨β', ϕ', ?_, ?_, fun k hk => (a3 k (by omega)).trans (hcg k hk), fun k hk => (a4 k (by omega)).trans (upd_lt _ _ _ hk), ?_, ?_, ?_, ?_, ?_, ?_⟩
      · simpa [fixL, List.append_assoc] using a1
      · simpa [fixL, List.append_assoc] using a2
      · simp only [fixL, SV.vals, a5, SV.val]
        rw [a3 n (by omega), upd_eq, SV.vals_congr hcg xs hl.2]; rfl
      · exact ⟨by simp only [SV.lt, fixL]; omega, a6⟩
      · exact ⟨trivial, a7⟩
      · simp only [fixL]; omega
      · simp [fixL, a9]
      · intro k hk
        have := a10 k (by omega)
        simp only [lk, if_neg (show ¬ n = k by omega)] at this
        rw [← this]
        simp [fixL, List.append_assoc]
    · have hf : fixL n (t :: ts) (x :: xs) = (x :: (fixL n ts xs).1, (fixL n ts xs).2.1, (fixL n ts xs).2.2) := by
        cases t <;> (try rfl)
        cases x <;> (try rfl)
        exact absurd ⟨_, rfl, rfl⟩ hc
      obtain ⟨β', ϕ', a1, a2, a3, a4, a5, a6, a7, a8, a9, a10⟩ := fixL_sound ts xs n A β ϕ h hb hl.2 hk.2
      rw [hf]
      refine ⟨β', ϕ', a1, a2, a3, a4, ?_, ⟨SV.lt_mono a8 x hl.1, a6⟩, ⟨SV.ok_congr a3 x hl.1 hk.1, a7⟩, a8, by simp [a9], a10⟩
      simp only [SV.vals, a5, SV.val_congr a3 x hl.1]
theorem alloc_old (w : World) (o : Obj) {b : Nat} (h : b < w.heap.size) : (w.alloc o).heap[b]? = w.heap[b]? := heap_alloc_old w o b h
theorem Fr.alloc {w0 : World} {X : List Nat} (h : Fr w0 X w) (o : Obj) : Fr w0 X (w.alloc o) :=
  ⟨h.os, h.tape, h.output, by have := h.size; show _ ≤ (w.heap.push o).size; simp; omega, fun b hb hn => (alloc_old w o (Nat.lt_of_lt_of_le hb h.size)).trans (h.block b hb hn)⟩
theorem Holds.addNew (hp : Holds w0.heap.size X F A β ϕ w) {n : Nat} {hl0 : HL} {g : GV} {f : List Nat} (hb : Bd n β A) (hw : Fr w0 X w) (hf : ∀ b, b < w.heap.size → w'.heap[b]? = w.heap[b]?) (hv : g.v.oneCell' = true)
    (hs : HLSat w' g (upd β n g) f hl0) (hnew : ∀ b ∈ f, w.heap.size ≤ b) (hn : ndOk f hl0) (hr : roots hl0 = []) (hp0 : pathOk A (upd β n g) w' g hl0) :
    Holds w0.heap.size X F ((n, hl0) :: A) (upd β n g) (upd ϕ n f) w' := by
  have h1 := hp.grow hf
  refine h1.add hb hv hs ?_ ?_ hn ?_ ?_ hp0 (by simp [hr]) (by simp [hr])
  · intro b hb'
    have := hnew b (owned_sub b hb')
    have := hw.size
    exact .inr (by omega)
  · intro _ b hb'
    have := hnew b hb'
    have := hw.size
    exact .inr (by omega)
  · intro i hl hi hd b hb' hm
    have h2 := hp.inb hi hd b hb'
    have h3 := hnew b (owned_sub b hm)
    omega
  · intro i hl hi _ b hb' hm
    by_cases hd : hl = .dead
    · subst hd; simp [owned] at hb'
    · have h2 := hp.inb hi hd b (owned_sub b hb')
      have h3 := hnew b hm
      omega
theorem box_sound {n : Nat} (hp : Holds w0.heap.size X F A β ϕ w) (hb : Bd n β A) (fr : Fr w0 X w) (t : Nat) (cs : List SV) (hl : SV.lts n cs) (hk : SV.oks β cs) :
    Holds w0.heap.size X F ((n, .box true t cs) :: A) (upd β n (gv (.pointer (some ⟨w.heap.size, 0, none⟩)))) (upd ϕ n [w.heap.size]) (w.alloc (.cells (SV.vals β cs).toArray t)) ∧
      Bd (n + 1) (upd β n (gv (.pointer (some ⟨w.heap.size, 0, none⟩)))) ((n, .box true t cs) :: A) := by
  have hcg : ∀ k, k < n → upd β n (gv (.pointer (some ⟨w.heap.size, 0, none⟩))) k = β k := fun k hk => upd_lt _ _ _ hk
  refine ⟨hp.addNew hb fr (fun b hb => alloc_old w _ hb) rfl ?_ (by simp) trivial rfl trivial, hb_add hb ⟨SV.lts_mono (Nat.le_succ n) cs hl, SV.oks_congr hcg cs hl hk⟩⟩
  exact ⟨w.heap.size, t, rfl, rfl, by rw [SV.vals_congr hcg cs hl]; simpa [gv] using heap_alloc_new w _⟩
theorem s_box {t : TypeId} {x : Operand} (hT : EnvTy P E) (ho : o.op = .box t x) (hR : opRes0 E S true o = some R) (sat : Sat N w0 X F S β ϕ a w) (hob : R.ob) : Snd P w0 X F S β ϕ o a w R := by
  unfold opRes0 at hR
  rw [ho] at hR
  simp only at hR
  split at hR
  · rename_i g' v ti hx hti
    cases hR
    obtain ⟨_, q2, q3⟩ := hob
    obtain ⟨x1, x2⟩ := ev_sound hx sat
    replace x1 := x1 q2
    obtain ⟨x3, x4⟩ := x2 q2
    have c1 : SV.lts S.n v.cells := by cases v <;> first | exact x1 | exact ⟨x1, trivial⟩
    have c2 : SV.oks β v.cells := by cases v <;> first | exact x4 | exact ⟨x4, trivial⟩
    obtain ⟨β', ϕ', a1, a2, a3, a4, a5, a6, a7, a8, a9, a10⟩ := fixL_sound ti.leaves v.cells S.n S.A β ϕ sat.hp sat.hb c1 c2
    obtain ⟨b1, b2⟩ := box_sound a1 a2 sat.fr t _ a6 a7
    refine ⟨trivial, _, _, _, _, .inl ?_, ⟨fun _ => rfl, ?_, b1, b2, ?_, ?_, ?_, sat.fr.alloc _⟩, fun h => by simp [stillP, convP, ho] at h, fun _ => (Fr.refl _ _).alloc _⟩
    · have hc := val_cells sat.hp.pl v
      simp only [execOp, ho, Instr.box, newVar, newRow, Sem.run_bind, Sem.run_pure, run_newObj, Result.andThen_ok, x3, hc, a5, SV.val, upd_eq, gv]
      rfl
    · intro h hh
      rw [upd_lt _ _ _ (by omega)]; exact a3 h hh
    · show SV.lt _ (SV.ptr _ _)
      simp [SV.lt]
    · exact ⟨w.heap.size, 0, by rw [upd_eq]; rfl⟩
    · show S.n ≤ _ + 1
      omega
  · cases hR
theorem zero_vals {ts : List PTy} (β : Nat → GV) (h : ∀ t ∈ ts, t.leaves = [t]) (hp : ∀ t ∈ ts, ∀ f l, t ≠ .fn f l) : SV.vals β (ts.map zeroSV) = ts.map zeroV := by
  rw [SV.vals_map, List.map_map]
  apply List.map_congr_left
  intro t ht
  cases t <;> first | rfl | exact absurd rfl (hp _ ht _ _)
theorem zero_lts (n : Nat) (ts : List PTy) : SV.lts n (ts.map zeroSV) := by
  rw [SV.lts_iff]; intro x hx; simp at hx; obtain ⟨t, _, rfl⟩ := hx; cases t <;> trivial
theorem zero_oks (β : Nat → GV) (ts : List PTy) : SV.oks β (ts.map zeroSV) := by
  rw [SV.oks_iff]; intro x hx; simp at hx; obtain ⟨t, _, rfl⟩ := hx
  cases t with
  | int k => cases k <;> (show inR _ 0; decide)
  | str => exact Nat.zero_le _
  | _ => trivial
theorem run_zero {t : TypeId} {ti : TI} (h : TIok P t ti) (w : World) : ∃ z, (zeroValue t).run P w = .ok z w ∧ z.cells = (ti.leaves.map zeroV).toArray := by
  obtain ⟨i, hi, _, _, z, hz, hc⟩ := h.info
  exact ⟨z, by simp [zeroValue, typeInfo, hi, hz], hc⟩
theorem s_alloc {t : TypeId} (hT : EnvTy P E) (ho : o.op = .alloc t) (hR : opRes0 E S true o = some R) (sat : Sat N w0 X F S β ϕ a w) (hob : R.ob) : Snd P w0 X F S β ϕ o a w R := by
  unfold opRes0 at hR
  rw [ho] at hR
  simp only at hR
  split at hR
  · rename_i ti hti
    split at hR
    · cases hR
    · cases hR
      rw [zeroSVs_map] at hob ⊢
      obtain ⟨β', ϕ', a1, a2, a3, a4, a5, a6, a7, a8, a9, a10⟩ := fixL_sound ti.leaves (ti.leaves.map zeroSV) S.n S.A β ϕ sat.hp sat.hb (zero_lts _ _) (zero_oks _ _)
      obtain ⟨b1, b2⟩ := box_sound a1 a2 sat.fr t _ a6 a7
      refine ⟨trivial, _, _, _, _, .inl ?_, ⟨fun _ => rfl, ?_, b1, b2, ?_, ?_, ?_, sat.fr.alloc _⟩, fun h => by simp [stillP, convP, ho] at h, fun _ => (Fr.refl _ _).alloc _⟩
      · obtain ⟨z, hz, hc⟩ := run_zero (hT _ _ hti) w
        have hz2 : SV.vals β' (fixL S.n ti.leaves (ti.leaves.map zeroSV)).1 = ti.leaves.map zeroV := by
          rw [a5]; exact zero_vals β (hT _ _ hti).lf (hT _ _ hti).nf
        simp only [execOp, ho, Instr.alloc, newVar, newRow, Sem.run_bind, Sem.run_pure, run_newObj, Result.andThen_ok, hz, hc, hz2, SV.val, upd_eq, gv]
        rfl
      · intro h hh
        rw [upd_lt _ _ _ (by omega)]; exact a3 h hh
      · show SV.lt _ (SV.ptr _ _)
        simp [SV.lt]
      · exact ⟨w.heap.size, 0, by rw [upd_eq]; rfl⟩
      · show S.n ≤ _ + 1
        omega
  · cases hR
theorem vals_getElem? (β : Nat → GV) (xs : List SV) (i : Nat) : (SV.vals β xs)[i]? = (xs[i]?).map (SV.val β) := by
  rw [SV.vals_map, List.getElem?_map]
theorem addr_add (b off n : Nat) : (⟨b, off, none⟩ : Addr).add n = ⟨b, off + n, none⟩ := by
  unfold Addr.add; split <;> simp_all
theorem run_loadCells_row (b off n : Nat) (c : Array Value) (t : TypeId) (fr : Nat × Nat) (h : w.heap[b]? = some (.cells c t fr)) (hn : off + n ≤ c.size) :
    (loadCells ⟨b, off, none⟩ n).run P w = .ok ((c.toList.drop off).take n).toArray w := by
  have hl : ((c.toList.drop off).take n).length = n := by simp; omega
  have := run_loadCells_list (P := P) w ⟨b, off, none⟩ ((c.toList.drop off).take n) (fun j v hj => by
    rw [addr_add, cell_of_row w b _ c t fr h]
    rw [List.getElem?_take] at hj
    split at hj
    · simpa using hj
    · cases hj)
  rwa [hl] at this
theorem mid_take (l m r : List Value) {off n : Nat} (h : off + n ≤ m.length) : ((l ++ m ++ r).drop (l.length + off)).take n = (m.drop off).take n := by
  rw [List.append_assoc, ← List.drop_drop, List.drop_left, List.drop_append_of_le_length (by omega), List.take_append_of_le_length (by simp; omega)]
theorem s_loadBox {t : TypeId} {x : Operand} {g' : Bool} {h off : Nat} {ti : TI} {ow : Bool} {bt : Nat} {cs : List SV} (hT : EnvTy P E) (ho : o.op = .load t x) (hx : S.ev x = some (g', .ptr h off)) (hti : lk E.ty t = some ti)
    (hl : lk S.A h = some (.box ow bt cs)) (hlen : off + ti.sz ≤ cs.length) (sat : Sat N w0 X F S β ϕ a w) (hg : g' = true) :
    (ti.agg = true → (execOp a.eval o).run P w = .ok (.value (SV.val β (.agg ((cs.drop off).take ti.sz)))) w) ∧
    (ti.agg = false → ∀ v, cs[off]? = some v → (execOp a.eval o).run P w = .ok (.value (SV.val β v)) w) := by
  obtain ⟨x1, x2⟩ := ev_sound hx sat
  replace x1 := x1 hg
  obtain ⟨x3, b, oo, hb⟩ := x2 hg
  obtain ⟨b', bt', hb', hϕ, hold⟩ := sat.hp.sat _ _ hl
  rw [hb] at hb'
  simp only [Value.pointer.injEq, Option.some.injEq, Addr.mk.injEq, and_true] at hb'
  obtain ⟨rfl, rfl⟩ := hb'
  simp only [SV.val, hb] at x3
  have hag := run_isAgg (hT _ _ hti)
  have hsz := run_size (hT _ _ hti)
  have hcl : (SV.vals β cs).length = cs.length := by simp [SV.vals_map]
  refine ⟨fun hA => ?_, fun hA v hv => ?_⟩
  · have hlc := run_loadCells_row (P := P) b ((β h).pre.length + off) ti.sz _ bt' (0, 0) hold (by simp [hcl]; omega)
    rw [List.toList_toArray, mid_take _ _ _ (by rw [hcl]; exact hlen)] at hlc
    simp only [execOp, ho, Instr.loadAt, Instr.sureAddr, loadVar, Sem.run_bind, Sem.run_pure, Result.andThen_ok, x3, hag, hsz, hA, if_true, hlc, SV.val]
    simp [SV.vals_map]
  · have hc := cell_of_row w b ((β h).pre.length + off) _ bt' (0, 0) hold
    have hv2 : ((β h).pre ++ SV.vals β cs ++ (β h).post).toArray[(β h).pre.length + off]? = some (SV.val β v) := by
      have hlt : off < cs.length := (List.getElem?_eq_some_iff.1 hv).1
      simp only [List.getElem?_toArray]
      rw [List.append_assoc, List.getElem?_append_right (by omega), Nat.add_sub_cancel_left, List.getElem?_append_left (by rw [hcl]; exact hlt), vals_getElem?, hv]; rfl
    rw [hv2] at hc
    simp only [execOp, ho, Instr.loadAt, Instr.sureAddr, loadVar, Sem.run_bind, Sem.run_pure, Result.andThen_ok, x3, hag, hA, Bool.false_eq_true, if_false, run_load, hc]
end
end Go.Proofs.YtkofjkjcbljkdaaGreatDoor
end

section
namespace Go.Proofs.YtkofjkjcbljkdaaGreatDoor
variable [LaidG]
set_option linter.unusedVariables false
section
variable {P : Program} {E : Env} {N : Nat} {w0 : World} {X F : List Nat} {S : St} {β : Nat → GV} {ϕ : Nat → List Nat} {a : Act} {w w' : World} {o : Oper} {R : RR} {A A' : Hp} {B : Nat}
theorem leaves_len {T : PTy} {e : PV} (h : Shp T e) : e.leaves.length = T.wd := by
  unfold Shp at h
  split at h
  · obtain ⟨qs, rfl, hl⟩ := h; exact hl
  · rename_i hT
    have h1 : T.wd = 1 := by cases T <;> first | rfl | exact absurd rfl (hT _)
    have h2 : e.leaves.length = 1 := by cases e <;> first | rfl | exact absurd rfl (h _)
    rw [h1, h2]
theorem flatP_len {T : PTy} : ∀ {es : List PV}, (∀ e ∈ es, Shp T e) → (flatP es).length = es.length * T.wd
  | [], _ => by simp [flatP]
  | e :: es, h => by
    have h1 := leaves_len (h e (by simp))
    have h2 := flatP_len (es := es) fun x hx => h x (by simp [hx])
    simp only [flatP, List.flatMap_cons, List.length_append, List.length_cons] at h2 ⊢
    rw [h2, h1, Nat.add_mul]; omega
theorem flatT_len (T : PTy) (n : Nat) : (flatT T n).length = n * T.wd := by
  induction n with
  | zero => simp [flatT]
  | succ n ih =>
    simp only [flatT, List.replicate_succ, List.flatten_cons, List.length_append] at ih ⊢
    rw [ih, Nat.add_mul]
    simp only [PTy.wd]; omega
theorem flatT_add (T : PTy) (m n : Nat) : flatT T (m + n) = flatT T m ++ flatT T n := by
  simp [flatT, ← List.replicate_append_replicate]
theorem flatT_one (T : PTy) : flatT T 1 = T.leaves := by simp [flatT]
theorem flatP_append (x y : List PV) : flatP (x ++ y) = flatP x ++ flatP y := by simp [flatP]
theorem split_at (es : List PV) {i : Nat} (hi : i < es.length) : es = es.take i ++ es.getD i PV.d :: es.drop (i + 1) := by
  have : es.getD i PV.d = es[i] := by simp [hi]
  rw [this, List.getElem_cons_drop, List.take_append_drop]
structure LOk (w : World) (L : List PTy → List PV → List Value → List Nat → Prop) : Prop where
  split : ∀ {T1 T2 p1 p2 vs f}, L (T1 ++ T2) (p1 ++ p2) vs f → T1.length = p1.length → ∃ v1 v2 f1 f2, vs = v1 ++ v2 ∧ f = f1 ++ f2 ∧ L T1 p1 v1 f1 ∧ L T2 p2 v2 f2
  app : ∀ {T1 T2 p1 p2 v1 v2 f1 f2}, L T1 p1 v1 f1 → L T2 p2 v2 f2 → L (T1 ++ T2) (p1 ++ p2) (v1 ++ v2) (f1 ++ f2)
  lv : ∀ {Ts ps vs f}, L Ts ps vs f → Lv w Ts ps vs f
theorem lok_lv (w : World) : LOk w (Lv w) := ⟨fun h hl => h.split rfl rfl hl, fun h h' => h.append h', id⟩
theorem lok_lo (w : World) : LOk w (Lo w) := by
  refine ⟨?_, ?_, fun h => h.lv⟩
  · rintro T1 T2 p1 p2 vs f ⟨fs, rfl, h⟩ hl
    obtain ⟨v1, v2, f1, f2, rfl, rfl, q1, q2⟩ := h.split rfl rfl hl
    exact ⟨v1, v2, _, _, rfl, by simp, ⟨f1, rfl, q1⟩, ⟨f2, rfl, q2⟩⟩
  · rintro T1 T2 p1 p2 v1 v2 f1 f2 ⟨fs, rfl, h⟩ ⟨fs', rfl, h'⟩
    exact ⟨fs ++ fs', by simp, h.append h'⟩
theorem elem_split {L : List PTy → List PV → List Value → List Nat → Prop} (hL0 : LOk w L) {T : PTy} {es : List PV} {cs : List Value} {f : List Nat} {i off sz : Nat} (hL : L (flatT T es.length) (flatP es) cs f) (hS : ∀ e ∈ es, Shp T e) (hi : i < es.length) (hle : off + sz ≤ T.wd) :
    ∃ v1 v2 v3 g1 g2 g3, cs = v1 ++ v2 ++ v3 ∧ f = g1 ++ g2 ++ g3 ∧ v1.length = i * T.wd + off ∧ v2.length = sz ∧
      L (flatT T i ++ T.leaves.take off) (flatP (es.take i) ++ (es.getD i PV.d).leaves.take off) v1 g1 ∧
      L (leafAt T off sz) (((es.getD i PV.d).leaves.drop off).take sz) v2 g2 ∧
      L (T.leaves.drop (off + sz) ++ flatT T (es.length - (i + 1))) ((es.getD i PV.d).leaves.drop (off + sz) ++ flatP (es.drop (i + 1))) v3 g3 := by
  have he : es.getD i PV.d ∈ es := by
    have : es.getD i PV.d = es[i] := by simp [hi]
    rw [this]; exact List.getElem_mem hi
  have hel := leaves_len (hS _ he)
  have hT : flatT T es.length = (flatT T i ++ T.leaves.take off) ++ (leafAt T off sz ++ (T.leaves.drop (off + sz) ++ flatT T (es.length - (i + 1)))) := by
    have e1 : es.length = i + (1 + (es.length - (i + 1))) := by omega
    rw [e1, flatT_add, flatT_add, flatT_one]
    have e2 : T.leaves = T.leaves.take off ++ ((T.leaves.drop off).take sz ++ T.leaves.drop (off + sz)) := by
      rw [← List.drop_drop, List.take_append_drop, List.take_append_drop]
    have e3 : i + (1 + (es.length - (i + 1))) - (i + 1) = es.length - (i + 1) := by omega
    rw [e3]
    conv => lhs; rw [e2]
    simp [leafAt, List.append_assoc]
  have hP : flatP es = (flatP (es.take i) ++ (es.getD i PV.d).leaves.take off) ++ (((es.getD i PV.d).leaves.drop off).take sz ++ ((es.getD i PV.d).leaves.drop (off + sz) ++ flatP (es.drop (i + 1)))) := by
    conv => lhs; rw [split_at es hi]
    have e2 : ∀ l : List PV, l = l.take off ++ ((l.drop off).take sz ++ l.drop (off + sz)) := by
      intro l
      rw [← List.drop_drop, List.take_append_drop, List.take_append_drop]
    have e4 : flatP (es.take i ++ es.getD i PV.d :: es.drop (i + 1)) = flatP (es.take i) ++ ((es.getD i PV.d).leaves ++ flatP (es.drop (i + 1))) := by
      simp [flatP]
    rw [e4]
    conv => lhs; rw [e2 (es.getD i PV.d).leaves]
    simp [List.append_assoc]
  have htk : (es.take i).length = i := by simp; omega
  have hl1 : (flatT T i ++ T.leaves.take off).length = (flatP (es.take i) ++ (es.getD i PV.d).leaves.take off).length := by
    have h1 := flatT_len T i
    have h2 := flatP_len (T := T) (es := es.take i) fun x hx => hS x (List.mem_of_mem_take hx)
    simp only [List.length_append, List.length_take, h1, h2, hel, htk]
    simp only [PTy.wd]
  rw [hT, hP] at hL
  obtain ⟨v1, v23, g1, g23, rfl, rfl, q1, q23⟩ := hL0.split hL hl1
  have hl2 : (leafAt T off sz).length = (((es.getD i PV.d).leaves.drop off).take sz).length := by
    simp only [leafAt, List.length_take, List.length_drop, hel, PTy.wd]
  obtain ⟨v2, v3, g2, g3, rfl, rfl, q2, q3⟩ := hL0.split q23 hl2
  refine ⟨v1, v2, v3, g1, g2, g3, by simp, by simp, ?_, ?_, q1, q2, q3⟩
  · obtain ⟨_, h1⟩ := (hL0.lv q1).lens
    rw [h1, ← hl1, List.length_append, flatT_len, List.length_take]
    simp only [PTy.wd] at hle ⊢
    omega
  · obtain ⟨_, h1⟩ := (hL0.lv q2).lens
    rw [h1, List.length_take, List.length_drop, hel]
    omega
theorem loadHy_sound : ∀ {Ts : List PTy} {ps : List PV} {vs : List Value} {f : List Nat}, Lv w Ts ps vs f → loadHy Ts ps := by
  intro Ts ps vs f h
  induction h with
  | nil => trivial
  | int h1 _ ih => exact ⟨h1, ih⟩
  | bool _ ih => exact ih
  | str h1 _ ih => exact ⟨h1, ih⟩
  | empty _ ih => exact ⟨Nat.zero_le _, ih⟩
  | list _ _ hl _ _ _ _ ih => exact ⟨hl.1, ih⟩
theorem flatLs_iff {ts : List PTy} : flatLs ts = true ↔ ∀ t ∈ ts, t = .bool ∨ t = .str ∨ ∃ k, t = .int k := by
  induction ts with
  | nil => simp [flatLs]
  | cons t ts ih =>
    simp only [flatLs, Bool.and_eq_true, ih, List.mem_cons, forall_eq_or_imp]
    have : flatL t = true ↔ (t = .bool ∨ t = .str ∨ ∃ k, t = .int k) := by cases t <;> simp [flatL]
    rw [this]
theorem flat_ty {T : PTy} (h : flatB T = true) : ∀ t ∈ T.leaves, t = .bool ∨ t = .str ∨ ∃ k, t = .int k := flatLs_iff.1 h
theorem flat_fp : ∀ {Ts : List PTy} {ps : List PV} {vs : List Value} {f : List Nat}, Lv w Ts ps vs f → (∀ t ∈ Ts, t = .bool ∨ t = .str ∨ ∃ k, t = .int k) → f = [] := by
  intro Ts ps vs f h
  induction h with
  | nil => intro _; rfl
  | int _ _ ih => intro hh; exact ih fun t ht => hh t (by simp [ht])
  | bool _ ih => intro hh; exact ih fun t ht => hh t (by simp [ht])
  | str _ _ ih => intro hh; exact ih fun t ht => hh t (by simp [ht])
  | empty _ _ => intro hh; have := hh _ List.mem_cons_self; simp at this
  | list _ _ _ _ _ _ _ _ => intro hh; have := hh _ List.mem_cons_self; simp at this
theorem flatT_ty {T : PTy} (h : flatB T = true) (n : Nat) : ∀ t ∈ flatT T n, t = .bool ∨ t = .str ∨ ∃ k, t = .int k := by
  intro t ht
  simp only [flatT, List.mem_flatten, List.mem_replicate] at ht
  obtain ⟨l, ⟨_, rfl⟩, hm⟩ := ht
  exact flat_ty h t hm
theorem lo_flat {O : Value → PTy → List PV → List Nat → Prop} : ∀ {Ts : List PTy} {ps : List PV} {vs : List Value} {f : List Nat}, Lv w Ts ps vs f → (∀ t ∈ Ts, t = .bool ∨ t = .str ∨ ∃ k, t = .int k) → ∃ fs, fs.flatten = [] ∧ LoP O Ts ps vs fs := by
  intro Ts ps vs f h
  induction h with
  | nil => intro _; exact ⟨[], rfl, .nil⟩
  | int h1 _ ih => intro hh; obtain ⟨fs, h2, h3⟩ := ih fun t ht => hh t (by simp [ht]); exact ⟨[] :: fs, by simpa using h2, .int h1 h3⟩
  | bool _ ih => intro hh; obtain ⟨fs, h2, h3⟩ := ih fun t ht => hh t (by simp [ht]); exact ⟨[] :: fs, by simpa using h2, .bool h3⟩
  | str h1 _ ih => intro hh; obtain ⟨fs, h2, h3⟩ := ih fun t ht => hh t (by simp [ht]); exact ⟨[] :: fs, by simpa using h2, .str h1 h3⟩
  | empty _ _ => intro hh; have := hh _ List.mem_cons_self; simp at this
  | list _ _ _ _ _ _ _ _ => intro hh; have := hh _ List.mem_cons_self; simp at this
theorem ownS_D {v : Value} {T : PTy} {es : List PV} {f : List Nat} (hT : flatB T = true) (h : OwnS w v T es f) : OwnD w v T es f := by
  rcases h with h | ⟨b, f1, cs, rfl, hr, hs, hv⟩
  · exact .inl h
  · have h1 := flat_fp hv (flatT_ty hT _)
    subst h1
    obtain ⟨fs, h2, h3⟩ := lo_flat (O := OwnF w) hv (flatT_ty hT _)
    exact .inr ⟨b, [], cs, rfl, hr, hs, fs, h2.symm, h3⟩
theorem ownD_S {v : Value} {T : PTy} {es : List PV} {f : List Nat} (h : OwnD w v T es f) : OwnS w v T es f := by
  rcases h with h | ⟨b, f1, cs, rfl, hr, hs, hv⟩
  · exact .inl h
  · exact .inr ⟨b, f1, cs, rfl, hr, hs, hv.lv⟩
theorem ownF_D {v : Value} {T : PTy} {es : List PV} {f : List Nat} (h : OwnF w v T es f) : OwnD w v T es f := ownS_D h.1 h.2
theorem ownD_F {v : Value} {T : PTy} {es : List PV} {f : List Nat} (hT : flatB T = true) (h : OwnD w v T es f) : OwnF w v T es f := ⟨hT, ownD_S h⟩
structure ViewOk (B : Nat) (F : List Nat) (A : Hp) (ϕ : Nat → List Nat) (n : Nat) (f rs : List Nat) : Prop where
  dj : ∀ i hl, lk A i = some hl → i ∉ rs → ∀ b ∈ owned (ϕ i) hl, b ∉ f
  all : ∀ b ∈ f, b ∈ F ∨ B ≤ b
  bx : ∀ r ∈ rs, ∀ o t cs, lk A r ≠ some (.box o t cs)
  lt : ∀ r ∈ rs, r < n
theorem ViewOk.mono {f g rs : List Nat} {n : Nat} (h : ViewOk B F A ϕ n f rs) (hs : ∀ b ∈ g, b ∈ f) : ViewOk B F A ϕ n g rs :=
  ⟨fun i hl hi hn b hb hm => h.dj i hl hi hn b hb (hs b hm), fun b hb => h.all b (hs b hb), h.bx, h.lt⟩
theorem PthOk.congr {β' : Nat → GV} {g : GV} {rs : List Nat} {T : PTy} {es : List PV} {p : Pth} (h : PthOk A β w g rs T es p) (hr : ∀ r ∈ rs, lk A' r = lk A r ∧ β' r = β r) : PthOk A' β' w g rs T es p := by
  cases p with
  | no => trivial
  | el r i j =>
    obtain ⟨h1, T', es', p', h2, h3, h4, h5, h6⟩ := h
    obtain ⟨e1, e2⟩ := hr r h1
    exact ⟨h1, T', es', p', e1.trans h2, h3, h4, h5, by rw [e2]; exact h6⟩
  | sub r lo =>
    obtain ⟨h1, es', p', h2, h3, h4, h5⟩ := h
    obtain ⟨e1, e2⟩ := hr r h1
    exact ⟨h1, es', p', by rw [e1]; exact h2, h3, h4, by rw [e2]; exact h5⟩
theorem lv_one1 {T : PTy} {p : PV} {v : Value} {f : List Nat} (h : Lv w [T] [p] [v] f) : v.oneCell' = true := by
  cases h <;> rfl
theorem add_view {n : Nat} {rs : List Nat} {T : PTy} {es : List PV} {v : Value} {f : List Nat} {p : Pth} (hp : Holds B X F A β ϕ w) (hb : Bd n β A) (hL : Lv w [.list T] [.list es] [v] f) (hv : ViewOk B F A ϕ n f rs) (hpt : PthOk A β w (gv v) rs T es p) :
    Holds B X F ((n, .arr (.vw rs) T es p) :: A) (upd β n (gv v)) (upd ϕ n f) w ∧ Bd (n + 1) (upd β n (gv v)) ((n, .arr (.vw rs) T es p) :: A) := by
  refine ⟨hp.add hb (lv_one1 hL) hL (by simp [owned]) (fun _ => hv.all) trivial ?_ hv.dj ?_ hv.lt hv.bx, hb_add hb fun r hr => by have := hv.lt r hr; omega⟩
  · intro i hl hi hd b hb' hm; simp [owned] at hm
  · exact hpt.congr fun r hr => ⟨rfl, upd_lt _ _ _ (hv.lt r hr)⟩
theorem ViewOk.add {n : Nat} {rs rs' : List Nat} {T : PTy} {es : List PV} {f g : List Nat} {p : Pth} {v : GV} (hb : Bd n β A) (h : ViewOk B F A ϕ n g rs) : ViewOk B F ((n, .arr (.vw rs') T es p) :: A) (upd ϕ n f) (n + 1) g rs := by
  refine ⟨?_, h.all, ?_, fun r hr => by have := h.lt r hr; omega⟩
  · intro i hl hi hn b hb'
    rw [lk_cons'] at hi
    split at hi
    · cases hi; simp [owned] at hb'
    · rename_i e
      rw [upd_ne _ _ _ e] at hb'
      exact h.dj i hl hi hn b hb'
  · intro r hr o t cs
    have := h.lt r hr
    rw [lk_cons', if_neg (by omega)]
    exact h.bx r hr o t cs
def PthsOk (A : Hp) (β : Nat → GV) (w : World) (rs : List Nat) (q : Nat → Pth) : Nat → List PTy → List PV → List Value → Prop
  | j, .list T :: Ts, .list es :: ps, v :: vs => PthOk A β w (gv v) rs T es (q j) ∧ PthsOk A β w rs q (j + 1) Ts ps vs
  | j, _ :: Ts, _ :: ps, _ :: vs => PthsOk A β w rs q (j + 1) Ts ps vs
  | _, _, _, _ => True
theorem PthsOk.congr {β' : Nat → GV} {rs : List Nat} {q : Nat → Pth} (hr : ∀ r ∈ rs, lk A' r = lk A r ∧ β' r = β r) : ∀ {Ts : List PTy} {ps : List PV} {vs : List Value} {j : Nat}, PthsOk A β w rs q j Ts ps vs → PthsOk A' β' w rs q j Ts ps vs := by
  intro Ts
  induction Ts with
  | nil => intro ps vs j h; simp [PthsOk]
  | cons T Ts ih =>
    intro ps vs j h
    cases ps with
    | nil => simp [PthsOk]
    | cons p ps => cases vs with
      | nil => simp [PthsOk]
      | cons v vs =>
        cases T <;> cases p <;> simp only [PthsOk] at h ⊢ <;> first | exact ih h | exact ⟨h.1.congr hr, ih h.2⟩
theorem pthsOk_no {rs : List Nat} : ∀ {Ts : List PTy} {ps : List PV} {vs : List Value} {j : Nat}, PthsOk A β w rs noP j Ts ps vs := by
  intro Ts
  induction Ts with
  | nil => intro ps vs j; simp [PthsOk]
  | cons T Ts ih =>
    intro ps vs j
    cases ps with
    | nil => simp [PthsOk]
    | cons p ps => cases vs with
      | nil => simp [PthsOk]
      | cons v vs =>
        cases T <;> cases p <;> simp only [PthsOk] <;> first | exact ih | exact ⟨trivial, ih⟩
theorem introL_view (rs : List Nat) (q : Nat → Pth) : ∀ (Ts : List PTy) (ps : List PV) (vs : List Value) (f : List Nat) (j n : Nat) (A : Hp) (β : Nat → GV) (ϕ : Nat → List Nat), Lv w Ts ps vs f → Holds B X F A β ϕ w → Bd n β A → ViewOk B F A ϕ n f rs → PthsOk A β w rs q j Ts ps vs →
    ∃ β' ϕ', Holds B X F ((introL (.vw rs) q j n Ts ps).2.1 ++ A) β' ϕ' w ∧ Bd (introL (.vw rs) q j n Ts ps).2.2 β' ((introL (.vw rs) q j n Ts ps).2.1 ++ A) ∧ (∀ k, k < n → β' k = β k) ∧
      SV.vals β' (introL (.vw rs) q j n Ts ps).1 = vs ∧ SV.lts (introL (.vw rs) q j n Ts ps).2.2 (introL (.vw rs) q j n Ts ps).1 ∧ SV.oks β' (introL (.vw rs) q j n Ts ps).1 ∧ n ≤ (introL (.vw rs) q j n Ts ps).2.2 ∧ (∀ k, k < n → ϕ' k = ϕ k) := by
  intro Ts
  induction Ts with
  | nil =>
    intro ps vs f j n A β ϕ hL hp hb hv hq
    cases hL
    exact ⟨β, ϕ, hp, hb, fun _ _ => rfl, rfl, trivial, trivial, Nat.le_refl _, fun _ _ => rfl⟩
  | cons T Ts ih =>
    intro ps vs f j n A β ϕ hL hp hb hv hq
    cases ps with
    | nil => have := hL.lens.1; simp at this
    | cons p ps =>
      obtain ⟨v, vs', f1, f2, rfl, rfl, h1, h2⟩ := hL.cons_inv
      have scal : ∀ (x : SV), (introL (.vw rs) q j n (T :: Ts) (p :: ps)) = (x :: (introL (.vw rs) q (j + 1) n Ts ps).1, (introL (.vw rs) q (j + 1) n Ts ps).2.1, (introL (.vw rs) q (j + 1) n Ts ps).2.2) → PthsOk A β w rs q (j + 1) Ts ps vs' → (∀ β, SV.val β x = v) → (∀ m, SV.lt m x) → (∀ β, SV.ok β x) →
          ∃ β' ϕ', Holds B X F ((introL (.vw rs) q j n (T :: Ts) (p :: ps)).2.1 ++ A) β' ϕ' w ∧ Bd (introL (.vw rs) q j n (T :: Ts) (p :: ps)).2.2 β' ((introL (.vw rs) q j n (T :: Ts) (p :: ps)).2.1 ++ A) ∧ (∀ k, k < n → β' k = β k) ∧
            SV.vals β' (introL (.vw rs) q j n (T :: Ts) (p :: ps)).1 = v :: vs' ∧ SV.lts (introL (.vw rs) q j n (T :: Ts) (p :: ps)).2.2 (introL (.vw rs) q j n (T :: Ts) (p :: ps)).1 ∧ SV.oks β' (introL (.vw rs) q j n (T :: Ts) (p :: ps)).1 ∧ n ≤ (introL (.vw rs) q j n (T :: Ts) (p :: ps)).2.2 ∧ (∀ k, k < n → ϕ' k = ϕ k) := by
        intro x he hq' hx hlt hok
        obtain ⟨β', ϕ', a1, a2, a3, a5, a6, a7, a8, a9⟩ := ih ps vs' f2 (j + 1) n A β ϕ h2 hp hb (hv.mono fun b hb => by simp [hb]) hq'
        rw [he]
        exact ⟨β', ϕ', a1, a2, a3, by simp [SV.vals, hx, a5], ⟨hlt _, a6⟩, ⟨hok _, a7⟩, a8, a9⟩
      cases T with
      | int k =>
        obtain ⟨m, rfl, rfl, hr, rfl⟩ := h1.int_inv
        exact scal (.int k m) rfl hq (fun _ => rfl) (fun _ => trivial) (fun _ => hr)
      | bool =>
        obtain ⟨m, rfl, rfl, rfl⟩ := h1.bool_inv
        exact scal (.bool m) rfl hq (fun _ => rfl) (fun _ => trivial) (fun _ => trivial)
      | str =>
        obtain ⟨m, rfl, rfl, hr, rfl⟩ := h1.str_inv
        exact scal (.str m) rfl hq (fun _ => rfl) (fun _ => trivial) (fun _ => hr)
      | list T =>
        obtain ⟨es, rfl⟩ : ∃ es, p = .list es := by cases h1 <;> exact ⟨_, rfl⟩
        simp only [PthsOk] at hq
        have hv1 : ViewOk B F A ϕ n f1 rs := hv.mono fun b hb => by simp [hb]
        have hv2 : ViewOk B F A ϕ n f2 rs := hv.mono fun b hb => by simp [hb]
        obtain ⟨c1, c2⟩ := add_view (T := T) (es := es) (v := v) (p := q j) hp hb h1 hv1 hq.1
        have hlk : ∀ r ∈ rs, lk ((n, HL.arr (.vw rs) T es (q j)) :: A) r = lk A r ∧ upd β n (gv v) r = β r := fun r hr => by
          have := hv.lt r hr
          exact ⟨by rw [lk_cons', if_neg (by omega)], upd_lt _ _ _ this⟩
        obtain ⟨β', ϕ', a1, a2, a3, a5, a6, a7, a8, a9⟩ := ih ps vs' f2 (j + 1) (n + 1) _ _ _ h2 c1 c2 (ViewOk.add (v := gv v) hb hv2) (PthsOk.congr hlk hq.2)
        refine ⟨β', ϕ', ?_, ?_, fun k hk => (a3 k (by omega)).trans (upd_lt _ _ _ hk), ?_, ?_, ?_, ?_, fun k hk => (a9 k (by omega)).trans (upd_lt _ _ _ hk)⟩
        · simpa [introL, PV.L, List.append_assoc] using a1
        · simpa [introL, PV.L, List.append_assoc] using a2
        · simp only [introL, SV.vals, SV.val, a5, a3 n (by omega), upd_eq]; rfl
        · exact ⟨by simp only [SV.lt, introL]; omega, a6⟩
        · exact ⟨trivial, a7⟩
        · simp only [introL]; omega
      | agg ts => cases h1
      | box ts => cases h1
      | abx ts => cases h1
      | fn f ts => cases h1
      | opq => cases h1
structure Laid (B : Nat) (X F : List Nat) (A' : Hp) (β β' : Nat → GV) (ϕ ϕ' : Nat → List Nat) (w : World) (n n' : Nat) (xs : List SV) (vs : List Value) (G : List Nat) : Prop where
  hp : Holds B X F A' β' ϕ' w
  hb : Bd n' β' A'
  bt : ∀ k, k < n → β' k = β k
  ft : ∀ k, k < n → ϕ' k = ϕ k
  vals : SV.vals β' xs = vs
  lts : SV.lts n' xs
  oks : SV.oks β' xs
  le : n ≤ n'
  ap : Apart A' ϕ' G
theorem add_own {n : Nat} {T : PTy} {es : List PV} {v : Value} {f G : List Nat} (hp : Holds B X F A β ϕ w) (hb : Bd n β A) (ho : OwnD w v T es f) (hn : (f ++ G).Nodup) (hw : ∀ b ∈ f, (b ∈ X ∨ B ≤ b) ∧ (b ∈ F ∨ B ≤ b)) (hd : Apart A ϕ (f ++ G)) :
    Holds B X F ((n, .arr .dp T es .no) :: A) (upd β n (gv v)) (upd ϕ n f) w ∧ Bd (n + 1) (upd β n (gv v)) ((n, .arr .dp T es .no) :: A) ∧ Apart ((n, .arr .dp T es .no) :: A) (upd ϕ n f) G := by
  obtain ⟨hn1, hn2, hn3⟩ := List.nodup_append.1 hn
  refine ⟨hp.add hb (lv_one1 ho.lv) ho (fun b hb => (hw b hb).1) (fun _ b hb => (hw b hb).2) hn1 ?_ ?_ trivial (by simp [roots]) (by simp [roots]), hb_add hb trivial, ?_⟩
  · exact hd.mono fun b hb => by simp only [owned] at hb; simp [hb]
  · intro i hl hi _ b hb' hm
    by_cases hdd : hl = .dead
    · subst hdd; simp [owned] at hb'
    · exact hd i hl hi hdd b (owned_sub b hb') (by simp [hm])
  · refine apart_put (hd.mono fun b hb => by simp [hb]) (fun i => lk_cons' A i) fun b hb hm => hn3 b hb b hm rfl
theorem introL_own (q : Nat → Pth) (hq : ∀ j, q j = .no) : ∀ (Ts : List PTy) (ps : List PV) (vs : List Value) (fs : List (List Nat)) (G : List Nat) (j n : Nat) (A : Hp) (β : Nat → GV) (ϕ : Nat → List Nat), LoD w Ts ps vs fs → Holds B X F A β ϕ w → Bd n β A →
    (fs.flatten ++ G).Nodup → (∀ b ∈ fs.flatten, (b ∈ X ∨ B ≤ b) ∧ (b ∈ F ∨ B ≤ b)) → Apart A ϕ (fs.flatten ++ G) →
    ∃ β' ϕ', Laid B X F ((introL .dp q j n Ts ps).2.1 ++ A) β β' ϕ ϕ' w n (introL .dp q j n Ts ps).2.2 (introL .dp q j n Ts ps).1 vs G := by
  intro Ts
  induction Ts with
  | nil =>
    intro ps vs fs G j n A β ϕ hL hp hb hn hw hd
    cases hL
    exact ⟨β, ϕ, hp, hb, fun _ _ => rfl, fun _ _ => rfl, rfl, trivial, trivial, Nat.le_refl _, (by simpa using hd : Apart A ϕ G)⟩
  | cons T Ts ih =>
    intro ps vs fs G j n A β ϕ hL hp hb hn hw hd
    have scal : ∀ (x : SV) (p : PV) (ps' : List PV) (v : Value) (vs' : List Value) (fs' : List (List Nat)), ps = p :: ps' → vs = v :: vs' → fs = [] :: fs' → LoD w Ts ps' vs' fs' → (introL .dp q j n (T :: Ts) ps) = (x :: (introL .dp q (j + 1) n Ts ps').1, (introL .dp q (j + 1) n Ts ps').2.1, (introL .dp q (j + 1) n Ts ps').2.2) → (∀ β, SV.val β x = v) → (∀ m, SV.lt m x) → (∀ β, SV.ok β x) →
        ∃ β' ϕ', Laid B X F ((introL .dp q j n (T :: Ts) ps).2.1 ++ A) β β' ϕ ϕ' w n (introL .dp q j n (T :: Ts) ps).2.2 (introL .dp q j n (T :: Ts) ps).1 vs G := by
      rintro x p ps' v vs' fs' rfl rfl rfl hL he hx hlt hok
      obtain ⟨β', ϕ', a1, a2, a3, a4, a5, a6, a7, a8, a9⟩ := ih ps' vs' fs' G (j + 1) n A β ϕ hL hp hb (by simpa using hn) (by simpa using hw) (by simpa using hd)
      rw [he]
      exact ⟨β', ϕ', a1, a2, a3, a4, by simp [SV.vals, hx, a5], ⟨hlt _, a6⟩, ⟨hok _, a7⟩, a8, a9⟩
    cases hL with
    | int h1 hL => exact scal (.int _ _) _ _ _ _ _ rfl rfl rfl hL rfl (fun _ => rfl) (fun _ => trivial) (fun _ => h1)
    | bool hL => exact scal (.bool _) _ _ _ _ _ rfl rfl rfl hL rfl (fun _ => rfl) (fun _ => trivial) (fun _ => trivial)
    | str h1 hL => exact scal (.str _) _ _ _ _ _ rfl rfl rfl hL rfl (fun _ => rfl) (fun _ => trivial) (fun _ => h1)
    | @list T es v f _ ps' vs' fs' hO hL =>
      simp only [List.flatten_cons, List.append_assoc] at hn hd hw
      obtain ⟨c1, c2, c3⟩ := add_own (n := n) hp hb hO hn (fun b hb => hw b (by simp [hb])) hd
      obtain ⟨β', ϕ', a1, a2, a3, a4, a5, a6, a7, a8, a9⟩ := ih ps' vs' fs' G (j + 1) (n + 1) _ _ _ hL c1 c2 (List.nodup_append.1 hn).2.1 (fun b hb => hw b (by simp only [List.mem_append]; exact .inr hb)) c3
      refine ⟨β', ϕ', ?_, ?_, fun k hk => (a3 k (by omega)).trans (upd_lt _ _ _ hk), fun k hk => (a4 k (by omega)).trans (upd_lt _ _ _ hk), ?_, ?_, ?_, ?_, ?_⟩
      · simpa [introL, PV.L, hq, List.append_assoc] using a1
      · simpa [introL, PV.L, hq, List.append_assoc] using a2
      · simp only [introL, SV.vals, SV.val, a5, a3 n (by omega), upd_eq]; rfl
      · exact ⟨by simp only [SV.lt, introL]; omega, a6⟩
      · exact ⟨trivial, a7⟩
      · simp only [introL]; omega
      · simpa [introL, PV.L, hq, List.append_assoc] using a9
theorem introL_flat (o : Own) (q : Nat → Pth) : ∀ {Ts : List PTy} {ps : List PV} {vs : List Value} {f : List Nat}, Lv w Ts ps vs f → (∀ t ∈ Ts, t = .bool ∨ t = .str ∨ ∃ k, t = .int k) → ∀ (j n : Nat),
    (introL o q j n Ts ps).2 = ([], n) ∧ SV.vals β (introL o q j n Ts ps).1 = vs ∧ (∀ m, SV.lts m (introL o q j n Ts ps).1) ∧ SV.oks β (introL o q j n Ts ps).1 := by
  intro Ts ps vs f h
  induction h with
  | nil => intro _ j n; exact ⟨rfl, rfl, fun _ => trivial, trivial⟩
  | int h1 _ ih =>
    intro hh j n
    obtain ⟨a1, a2, a3, a4⟩ := ih (fun t ht => hh t (by simp [ht])) (j + 1) n
    simp only [Prod.ext_iff] at a1
    exact ⟨by simp [introL, a1.1, a1.2], by simp [introL, SV.vals, SV.val, PV.I, a2], fun m => ⟨trivial, a3 m⟩, ⟨h1, a4⟩⟩
  | bool _ ih =>
    intro hh j n
    obtain ⟨a1, a2, a3, a4⟩ := ih (fun t ht => hh t (by simp [ht])) (j + 1) n
    simp only [Prod.ext_iff] at a1
    exact ⟨by simp [introL, a1.1, a1.2], by simp [introL, SV.vals, SV.val, PV.B, a2], fun m => ⟨trivial, a3 m⟩, ⟨trivial, a4⟩⟩
  | str h1 _ ih =>
    intro hh j n
    obtain ⟨a1, a2, a3, a4⟩ := ih (fun t ht => hh t (by simp [ht])) (j + 1) n
    simp only [Prod.ext_iff] at a1
    exact ⟨by simp [introL, a1.1, a1.2], by simp [introL, SV.vals, SV.val, PV.S, a2], fun m => ⟨trivial, a3 m⟩, ⟨h1, a4⟩⟩
  | empty _ _ => intro hh; have := hh _ List.mem_cons_self; simp at this
  | list _ _ _ _ _ _ _ _ => intro hh; have := hh _ List.mem_cons_self; simp at this
end
end Go.Proofs.YtkofjkjcbljkdaaGreatDoor
end

section
namespace Go.Proofs.YtkofjkjcbljkdaaGreatDoor
variable [LaidG]
set_option linter.unusedVariables false
section
variable {P : Program} {E : Env} {N : Nat} {w0 : World} {X F : List Nat} {S : St} {β : Nat → GV} {ϕ : Nat → List Nat} {a : Act} {w w' : World} {o : Oper} {R : RR} {A : Hp} {B : Nat}
theorem leaf_leaves {p : PV} (h : ∀ qs, p ≠ .agg qs) : p.leaves = [p] := by
  cases p <;> first | rfl | exact absurd rfl (h _)
theorem getD_mem {es : List PV} {i : Nat} (hi : i < es.length) : es.getD i PV.d ∈ es := by
  have : es.getD i PV.d = es[i] := by simp [hi]
  rw [this]; exact List.getElem_mem hi
theorem take_one {l : List PV} {n : Nat} (h : n < l.length) : (l.drop n).take 1 = [l.getD n PV.d] := by
  have : l.getD n PV.d = l[n] := by simp [h]
  rw [this, List.drop_eq_getElem_cons h, List.take_succ_cons, List.take_zero]
theorem etaL_eq : ∀ {ts : List PTy} {k : Nat} {A : List PV}, k + ts.length ≤ A.length → etaL k ts A = (A.drop k).take ts.length
  | [], k, A, _ => by simp [etaL]
  | t :: ts, k, A, h => by
    simp only [List.length_cons] at h
    have e : A.getD k PV.d = A[k] := by
      have : k < A.length := by omega
      simp [this]
    rw [etaL, etaL_eq (by omega), e, List.drop_eq_getElem_cons (by omega : k < A.length), List.length_cons, List.take_succ_cons]
theorem loadEl_leaves {T : PTy} {es : List PV} {i off : Nat} {ti : TI} (hS : ∀ e ∈ es, Shp T e) (hi : i < es.length) (hle : off + ti.sz ≤ T.wd) (h1 : ti.agg = false → ti.sz = 1)
    (hag : aggOk T ti.agg) :
    (ti.agg = true → loadEl T es i off ti = .agg (((es.getD i PV.d).leaves.drop off).take ti.sz)) ∧ (ti.agg = false → [loadEl T es i off ti] = ((es.getD i PV.d).leaves.drop off).take ti.sz) := by
  have hs := hS _ (getD_mem hi)
  have hel := leaves_len hs
  have key : ∀ e : PV, e = es.getD i PV.d → Shp T e → e.leaves.length = T.wd → 
    (ti.agg = true → loadEl T es i off ti = .agg ((e.leaves.drop off).take ti.sz)) ∧ (ti.agg = false → [loadEl T es i off ti] = (e.leaves.drop off).take ti.sz) := by
    intro e he hs hel
    cases T with
    | agg ts =>
      obtain ⟨qs, rfl, hq⟩ := hs
      simp only [PV.leaves] at hel ⊢
      constructor
      · intro hA
        simp only [loadEl, hA, if_true, ← he, PV.A]
        rw [etaL_eq (by simp only [TI.sz] at hle; omega)]
        rfl
      · intro hA
        simp only [loadEl, hA, Bool.false_eq_true, if_false, ← he]
        rw [h1 hA, take_one (by have := h1 hA; omega)]
        rfl
    | _ =>
      constructor
      · intro hA; simp [aggOk, hA] at hag
      · intro hA
        have h0 : ∀ qs, e ≠ .agg qs := by simpa [Shp] using hs
        have hoff : off = 0 := by
          have := h1 hA
          simp only [PTy.wd, PTy.leaves, List.length_singleton] at hle
          omega
        rw [leaf_leaves h0, h1 hA, hoff]
        simp only [loadEl, ← he, List.drop_zero]
        rfl
  exact key _ rfl hs hel
def ByLeaves (T : PTy) (p : PV) (x : SV) (Ts : List PTy) (ps : List PV) (xs : List SV) : Prop :=
  (T = .agg Ts ∧ p = .agg ps ∧ x = .agg xs) ∨ (Ts = [T] ∧ ps = [p] ∧ xs = [x] ∧ ∀ ts, T ≠ .agg ts)
theorem introV_by {T : PTy} {p : PV} {Ts : List PTy} {ps : List PV} {n j : Nat} {o : Own} {q : Nat → Pth} (h : (T = .agg Ts ∧ p = .agg ps) ∨ (Ts = [T] ∧ ps = [p] ∧ ∀ ts, T ≠ .agg ts)) :
    (introV o q j n T p).2 = (introL o q j n Ts ps).2 ∧ ByLeaves T p (introV o q j n T p).1 Ts ps (introL o q j n Ts ps).1 := by
  rcases h with ⟨rfl, rfl⟩ | ⟨rfl, rfl, hne⟩
  · exact ⟨rfl, .inl ⟨rfl, rfl, rfl⟩⟩
  · have he : introV o q j n T p = ((introL o q j n [T] [p]).1.headD .nilp, (introL o q j n [T] [p]).2.1, (introL o q j n [T] [p]).2.2) := by
      cases T <;> first | rfl | exact absurd rfl (hne _)
    obtain ⟨x, hx⟩ : ∃ x, (introL o q j n [T] [p]).1 = [x] := by
      cases T <;> simp [introL]
    rw [he]
    exact ⟨rfl, .inr ⟨rfl, rfl, by simp [hx], hne⟩⟩
theorem byl_lt {T : PTy} {p : PV} {x : SV} {Ts ps xs} {n : Nat} (h : ByLeaves T p x Ts ps xs) (hl : SV.lts n xs) : SV.lt n x := by
  rcases h with ⟨_, _, rfl⟩ | ⟨_, _, rfl, _⟩
  · exact hl
  · exact hl.1
theorem byl_ok {T : PTy} {p : PV} {x : SV} {Ts ps xs} (h : ByLeaves T p x Ts ps xs) (hl : SV.oks β xs) : SV.ok β x := by
  rcases h with ⟨_, _, rfl⟩ | ⟨_, _, rfl, _⟩
  · exact hl
  · exact hl.1
theorem run_loadEl {t : TypeId} {x : Operand} {ti : TI} {T : PTy} {es : List PV} {i off wd b o' : Nat} {c : Array Value} {t' : TypeId} {fr : Nat × Nat} {cs : List Value} {f1 : List Nat} {L : List PTy → List PV → List Value → List Nat → Prop} (hL0 : LOk w L) (hTk : TIok P t ti) (ho : o.op = .load t x)
    (hblk : w.heap[b]? = some (.cells c t' fr)) (hS : ∀ e ∈ es, Shp T e) (hL : L (flatT T es.length) (flatP es) cs f1) (hc : (c.toList.drop o').take cs.length = cs)
    (hlen : off + ti.sz ≤ T.wd) (q2 : wd = T.wd) (q3 : leafAt T off ti.sz = ti.leaves) (q4 : i < es.length) (q5 : aggOk T ti.agg) (x3 : a.eval x = .pointer (some ⟨b, o' + i * wd + off, none⟩)) :
    ∃ v1 v2 v3 g1 g2 g3 ps, cs = v1 ++ v2 ++ v3 ∧ f1 = g1 ++ g2 ++ g3 ∧ v1.length = i * T.wd + off ∧ v2.length = ti.sz ∧ ps = ((es.getD i PV.d).leaves.drop off).take ti.sz ∧ L ti.leaves ps v2 g2 ∧
      L (flatT T i ++ T.leaves.take off) (flatP (es.take i) ++ (es.getD i PV.d).leaves.take off) v1 g1 ∧ L (T.leaves.drop (off + ti.sz) ++ flatT T (es.length - (i + 1))) ((es.getD i PV.d).leaves.drop (off + ti.sz) ++ flatP (es.drop (i + 1))) v3 g3 ∧
      ((ti.pty = .agg ti.leaves ∧ loadEl T es i off ti = .agg ps) ∨ (ti.leaves = [ti.pty] ∧ ps = [loadEl T es i off ti] ∧ ∀ ts, ti.pty ≠ .agg ts)) ∧ (loadEl T es i off ti).leaves = ps ∧
      (∀ y : Nat, y < ti.sz → c[o' + (i * T.wd + off + y)]? = v2[y]?) ∧
      ∀ w1, Fr w [] w1 → ∀ (x : SV) (xs : List SV) (β : Nat → GV), ByLeaves ti.pty (loadEl T es i off ti) x ti.leaves ps xs → SV.vals β xs = v2 → (execOp a.eval o).run P w1 = .ok (.value (SV.val β x)) w1 := by
  obtain ⟨e1, e2⟩ := loadEl_leaves hS q4 hlen hTk.one q5
  obtain ⟨v1, v2, v3, g1, g2, g3, rfl, rfl, hl1, hl2, hL1, hL2, hL3⟩ := elem_split hL0 hL hS q4 hlen
  rw [q3] at hL2
  have hLv := hL0.lv hL2
  have hcase : (ti.pty = .agg ti.leaves ∧ loadEl T es i off ti = .agg (((es.getD i PV.d).leaves.drop off).take ti.sz)) ∨ (ti.leaves = [ti.pty] ∧ ((es.getD i PV.d).leaves.drop off).take ti.sz = [loadEl T es i off ti] ∧ ∀ ts, ti.pty ≠ .agg ts) := by
    cases hA : ti.agg with
    | true => exact .inl ⟨by simp [TI.pty, hA], e1 hA⟩
    | false =>
      have h1 : ti.leaves.length = 1 := hTk.one hA
      obtain ⟨y, hy⟩ := List.length_eq_one_iff.1 h1
      refine .inr ⟨by simp [TI.pty, hA, hy], (e2 hA).symm, ?_⟩
      intro ts hts
      simp [TI.pty, hA, hy] at hts
      have := hTk.lf y (by simp [hy])
      subst hts
      exact absurd hLv (by rw [hy]; intro hh; cases hh)
  have hag := run_isAgg hTk
  have hsz := run_size hTk
  have hcl : c.toList.length = c.size := by simp
  have hdrop : (c.toList.drop (o' + i * wd + off)).take ti.sz = v2 := by
    have h1 := hc
    rw [q2]
    have h3 : ((c.toList.drop o').take (v1 ++ v2 ++ v3).length).drop (i * T.wd + off) = v2 ++ v3 := by
      rw [h1, ← hl1]; simp
    rw [List.drop_take, List.drop_drop] at h3
    have h4 := congrArg (List.take ti.sz) h3
    rw [List.take_take] at h4
    have h5 : min ti.sz ((v1 ++ v2 ++ v3).length - (i * T.wd + off)) = ti.sz := by
      simp only [List.length_append]; omega
    rw [h5] at h4
    rw [← hl2] at h4 ⊢
    simp only [List.take_left] at h4
    rw [← h4]
    congr 2; omega
  have hbnd : o' + i * wd + off + ti.sz ≤ c.size := by
    have h1 := congrArg List.length hdrop
    rw [hl2, List.length_take, List.length_drop, hcl] at h1
    have := hTk.pos
    omega
  refine ⟨v1, v2, v3, g1, g2, g3, _, rfl, rfl, hl1, hl2, rfl, hL2, hL1, hL3, hcase, ?_, ?_, ?_⟩
  · rcases hcase with ⟨_, h⟩ | ⟨_, h, _⟩
    · rw [h]; rfl
    · rw [h, leaf_leaves]
      have := hLv.leaves_of (loadEl T es i off ti) (by rw [h]; simp)
      exact this
  · intro y hy
    have := congrArg (fun l => l[y]?) hdrop
    simp only [List.getElem?_take, if_pos hy, List.getElem?_drop, Array.getElem?_toList] at this
    rw [← this, q2]; congr 1; omega
  · intro w1 hw1 x xs β hby hvs
    have hblk1 := (hw1.block b (Array.getElem?_eq_some_iff.1 hblk).1 (by simp)).trans hblk
    rcases hby with ⟨b1, b2, b3⟩ | ⟨b1, b2, b3, b4⟩
    · have hA : ti.agg = true := by
        cases hA : ti.agg with
        | true => rfl
        | false =>
          rcases hcase with ⟨_, hc2⟩ | ⟨_, _, hc3⟩
          · have := e2 hA
            rw [hc2] at this
            have h7 := hLv.leaves_of (loadEl T es i off ti) (by rw [← this, hc2]; simp)
            exact absurd hc2 (h7 _)
          · exact absurd b1 (hc3 _)
      have hlc := run_loadCells_row (P := P) b (o' + i * wd + off) ti.sz c t' fr hblk1 hbnd
      rw [hdrop] at hlc
      simp only [execOp, ho, Instr.loadAt, Instr.sureAddr, loadVar, Sem.run_bind, Sem.run_pure, Result.andThen_ok, x3, hag, hsz, hA, if_true, hlc, b3, SV.val, hvs]
    · have hA : ti.agg = false := by
        cases hA : ti.agg with
        | false => rfl
        | true => exact absurd (by simp [TI.pty, hA]) (b4 ti.leaves)
      subst b3
      have hcell : w1.cell? ⟨b, o' + i * wd + off, none⟩ = some (SV.val β x) := by
        rw [cell_of_row w1 b _ c t' fr hblk1]
        have h1 := hTk.one hA
        simp only [SV.vals] at hvs
        rw [h1, ← hvs] at hdrop
        have h2 := congrArg (fun l => l[0]?) hdrop
        simpa using h2
      simp only [execOp, ho, Instr.loadAt, Instr.sureAddr, loadVar, Sem.run_bind, Sem.run_pure, Result.andThen_ok, x3, hag, hA, Bool.false_eq_true, if_false, run_load, hcell]
theorem loadHy_case {Ts : List PTy} {ps : List PV} {p : PV} {vs : List Value} {f : List Nat} (hL : Lv w Ts ps vs f) (hp : p.leaves = ps) : loadHy Ts p.leaves := by
  rw [hp]; exact loadHy_sound hL
theorem pths_el {rs : List Nat} {h i b o' : Nat} {T : PTy} {es : List PV} {p : Pth} {c : Array Value} {t' : TypeId} {fr : Nat × Nat} (hl : lk A h = some (.arr .dp T es p)) (hr : h ∈ rs) (q4 : i < es.length) (haddr : addrOf (β h).v = some (b, o')) (hblk : w.heap[b]? = some (.cells c t' fr)) :
    ∀ (Ts : List PTy) (ps : List PV) (vs : List Value) (j : Nat), (∀ y t, Ts[y]? = some t → T.leaves[j + y]? = some t) → (∀ y q, ps[y]? = some q → (es.getD i PV.d).leaves[j + y]? = some q) → (∀ y v, vs[y]? = some v → c[o' + (i * T.wd + j + y)]? = some v) →
      PthsOk A β w rs (elP h i) j Ts ps vs := by
  intro Ts
  induction Ts with
  | nil => intro ps vs j _ _ _; simp [PthsOk]
  | cons t Ts ih =>
    intro ps vs j h1 h2 h3
    cases ps with
    | nil => simp [PthsOk]
    | cons q ps => cases vs with
      | nil => simp [PthsOk]
      | cons v vs =>
        have ih' := ih ps vs (j + 1) (fun y t hy => by have := h1 (y + 1) t (by simpa using hy); rwa [show j + (y + 1) = j + 1 + y by omega] at this) (fun y t hy => by have := h2 (y + 1) t (by simpa using hy); rwa [show j + (y + 1) = j + 1 + y by omega] at this)
          (fun y t hy => by have := h3 (y + 1) t (by simpa using hy); rwa [show o' + (i * T.wd + j + (y + 1)) = o' + (i * T.wd + (j + 1) + y) by omega] at this)
        cases t <;> cases q <;> simp only [PthsOk] <;> first | exact ih' | skip
        refine ⟨⟨hr, T, es, p, hl, q4, by simpa using h1 0 _ rfl, by simpa using h2 0 _ rfl, b, o', c, t', fr, haddr, hblk, by simpa [gv] using h3 0 _ rfl⟩, ih'⟩
theorem viewOk_of {h : Nat} {hl : HL} {g : List Nat} {n : Nat} (hp : Holds B X F A β ϕ w) (hb : Bd n β A) (hh : lk A h = some hl) (hd : isA hl) (hs : ∀ b ∈ g, b ∈ ϕ h) {rs : List Nat} (hrs : ∀ r ∈ roots hl, r ∈ rs) (hrs2 : ∀ r ∈ rs, r = h ∨ r ∈ roots hl) (hown : h ∈ rs ∨ ∀ b ∈ owned (ϕ h) hl, b ∉ g) (hbx : ∀ o t cs, hl ≠ .box o t cs) : ViewOk B F A ϕ n g rs := by
  refine ⟨?_, fun b hb' => hp.all h hl hh hd b (hs b hb'), ?_, ?_⟩
  · intro i hl' hi hn b hb' hm
    by_cases hih : i = h
    · subst hih
      rw [hh] at hi; cases hi
      rcases hown with h1 | h1
      · exact hn h1
      · exact h1 b hb' hm
    · exact hp.dj i h hl' hl hi hh hih (fun hr => hn (hrs i hr)) (by intro e; subst e; exact hd) b hb' (hs b hm)
  · intro r hr o t cs hc
    rcases hrs2 r hr with rfl | h1
    · rw [hh] at hc; cases hc; exact hbx _ _ _ rfl
    · exact hp.rt h hl hh r h1 o t cs hc
  · intro r hr
    rcases hrs2 r hr with rfl | h1
    · exact (hb _ _ hh).1
    · have := (hb _ _ hh).2
      cases hl with
      | arr o T es p =>
        cases o <;> simp only [roots, List.not_mem_nil] at h1
        exact this r h1
      | _ => simp [roots] at h1
theorem s_load {t : TypeId} {x : Operand} (hT : EnvTy P E) (ho : o.op = .load t x) (hR : opRes0 E S true o = some R) (sat : Sat N w0 X F S β ϕ a w) (hob : R.ob) : Snd P w0 X F S β ϕ o a w R := by
  unfold opRes0 at hR
  rw [ho] at hR
  simp only at hR
  split at hR
  · rename_i g' h off ti hx hti
    split at hR
    · rename_i ow bt cs hl
      split at hR
      · rename_i hlen
        have key := fun hg => s_loadBox (P := P) hT ho hx hti hl hlen sat hg
        obtain ⟨hbd, hlt⟩ := sat.hb _ _ hl
        obtain ⟨hlt1, hok1⟩ := hlt
        split at hR
        · rename_i hA
          cases hR
          refine snd_pure sat trivial ((key (hob rfl)).1 hA) ?_ ?_
          · show SV.lts _ _
            rw [SV.lts_iff] at hlt1 ⊢
            exact fun y hy => hlt1 y (List.mem_of_mem_drop (List.mem_of_mem_take hy))
          · show SV.oks _ _
            rw [SV.oks_iff] at hok1 ⊢
            exact fun y hy => hok1 y (List.mem_of_mem_drop (List.mem_of_mem_take hy))
        · rename_i hA
          split at hR
          · rename_i v hv
            cases hR
            have hm := List.mem_of_getElem? hv
            exact snd_pure sat trivial ((key (hob rfl)).2 (by simpa using hA) v hv) (SV.lts_iff.1 hlt1 v hm) (SV.oks_iff.1 hok1 v hm)
          · cases hR
      · cases hR
    · cases hR
  · rename_i g' h i wd off ti hx hti
    have hTk := hT _ _ hti
    obtain ⟨x1, x2⟩ := ev_sound hx sat
    split at hR
    · -- taken out of what is given away
      rename_i k T es p hl
      split at hR
      · rename_i hoff
        obtain ⟨rfl, hsz⟩ := hoff
        cases hR
        obtain ⟨_, q1, q2, q3, q4, q5, q6, q7⟩ := hob
        replace x1 := x1 q1
        obtain ⟨x3, bx, ox, hbx⟩ := x2 q1
        rw [val_elp hbx] at x3
        rcases sat.hp.sat _ _ hl with ⟨rfl, _⟩ | ⟨b, f1, c1, c2, hϕ, ⟨⟨o', cap, c, t', fr, hv, hblk, hcap, hle, hmx, hfz, hcs⟩, hlen, hlim⟩, hc1, hS, hL⟩
        · simp at q4
        rw [hv] at hbx
        simp only [addrOf, Option.some.injEq, Prod.mk.injEq] at hbx
        obtain ⟨rfl, rfl⟩ := hbx
        have hmin : min k es.length = k := by omega
        rw [hmin] at hc1
        have hS2 : ∀ e ∈ es.drop k, Shp T e := fun e he => hS e (List.mem_of_mem_drop he)
        have hdl : (es.drop k).length = es.length - k := by simp
        have hgd : (es.drop k).getD (i - k) PV.d = es.getD i PV.d := by
          simp only [List.getD_eq_getElem?_getD, List.getElem?_drop]; congr 2; omega
        have hc2 : (c.toList.drop (o' + k * T.wd)).take c2.length = c2 := by
          rw [← List.drop_drop]
          have h1 := congrArg (List.drop (k * T.wd)) hcs
          rw [List.drop_take, ← hc1] at h1
          simp only [List.drop_left] at h1
          rw [hc1] at h1
          have e : (c1 ++ c2).length - k * T.wd = c2.length := by simp only [List.length_append, hc1]; omega
          rwa [e] at h1
        have x4 : a.eval x = .pointer (some ⟨b, (o' + k * T.wd) + (i - k) * wd + 0, none⟩) := by
          rw [x3, q2]
          have : i * T.wd = k * T.wd + (i - k) * T.wd := by rw [← Nat.add_mul]; congr 1; omega
          rw [this]; congr 3; omega
        have hlf : leafAt T 0 ti.sz = ti.leaves := by
          rw [hsz, leafAt, List.drop_zero, ← q3, PTy.wd, List.take_length]
        have hel : loadEl T (es.drop k) (i - k) 0 ti = loadEl T es i 0 ti := by
          unfold loadEl; rw [hgd]
        obtain ⟨v1, v2, v3, g1, g2, g3, ps, rfl, rfl, hl1, hl2, hps, hL2, hL1, hL3, hcase, hlv, hcell, hrun⟩ := run_loadEl (lok_lo w) hTk ho hblk hS2 (by rw [hdl]; exact hL) hc2 (by omega) q2 hlf (by rw [hdl]; omega) q6 x4
        rw [hel] at hcase hlv hrun
        obtain ⟨fs2, rfl, hL2⟩ := hL2
        have hLD : LoD w ti.leaves ps v2 fs2 := hL2.mono fun v T es f _ h => ownF_D h
        have hnd : (ϕ h).Nodup := sat.hp.nd _ _ hl
        rw [hϕ] at hnd
        have hnd2 : (g1 ++ fs2.flatten ++ g3).Nodup := (List.nodup_cons.1 hnd).2
        have hbn := (List.nodup_cons.1 hnd).1
        obtain ⟨m1, m2, m3⟩ := List.nodup_append.1 hnd2
        obtain ⟨m4, m5, m6⟩ := List.nodup_append.1 m1
        have e3 : (es.drop k).drop (i - k + 1) = es.drop (i + 1) := by rw [List.drop_drop]; congr 1; omega
        have hnew : OwnC w (i + 1) (β h).v T es (b :: g3) := by
          refine .inr ⟨b, g3, c1 ++ v1 ++ v2, v3, rfl, ⟨⟨o', cap, c, t', fr, hv, hblk, hcap, hle, hmx, hfz, by simpa [List.append_assoc] using hcs⟩, by simpa [List.append_assoc] using hlen, hlim⟩, ?_, hS, ?_⟩
          · simp only [List.length_append, hc1, hl1, hl2, hsz]
            have : min (i + 1) es.length = i + 1 := by omega
            rw [this]
            have e : (i + 1) * T.wd = k * T.wd + (i - k) * T.wd + T.wd := by
              rw [← Nat.add_mul, Nat.add_mul, Nat.one_mul]; congr 2; omega
            rw [e]; omega
          · have h8 := hL3
            rw [show T.leaves.drop (0 + ti.sz) = [] by rw [hsz]; simp [PTy.wd], List.nil_append, hgd, hdl, e3] at h8
            have h9 : (es.getD i PV.d).leaves.drop (0 + ti.sz) = [] := by
              have := leaves_len (hS _ (getD_mem q4))
              rw [List.drop_eq_nil_iff]; omega
            rw [h9, List.nil_append] at h8
            rw [show es.length - (i + 1) = es.length - k - (i - k + 1) by omega]
            exact h8
        have hst := sat.hp.struck [h]
        have hbst := strike_bd sat.hb [h]
        have hG : ∀ bb ∈ ϕ h, ∃ i' ∈ [h], ∃ hl', lk S.A i' = some hl' ∧ bb ∈ owned (ϕ i') hl' := fun bb hbb => ⟨h, by simp, _, hl, by simpa [owned] using hbb⟩
        have ap := strike_apart (G := ϕ h) sat.hp hG
        have hsubϕ : ∀ bb ∈ b :: g3, bb ∈ ϕ h := by
          intro bb hbb
          rw [hϕ]
          rcases List.mem_cons.1 hbb with rfl | hbb
          · simp
          · simp [hbb]
        have hput := hst.put (A' := set1 (strike [h] S.A) h (.arr (.cs (i + 1)) T es .no)) (n := h) (hl0 := .arr (.cs (i + 1)) T es .no) (f := b :: g3) (fun j => lk_set1' _ _ _) (fun hl' hi => strike_dead (by simp) hi) hnew
          (fun bb hbb => sat.hp.own _ _ hl bb (by simpa [owned] using hsubϕ bb hbb)) (fun _ bb hbb => sat.hp.all _ _ hl trivial bb (hsubϕ bb hbb))
          (by refine List.nodup_cons.2 ⟨fun hm => hbn (by simp [hm]), m2⟩) (ap.mono fun bb hbb => hsubϕ bb (owned_sub bb hbb))
          (fun i' hl' hi' _ bb hbb hm => by
            by_cases hd : hl' = .dead
            · subst hd; simp [owned] at hbb
            · exact ap i' hl' hi' hd bb (owned_sub bb hbb) (hsubϕ bb hm)) trivial (fun _ _ _ e => by cases e) (by simp [roots])
        have hbput := bd_put (A' := set1 (strike [h] S.A) h (.arr (.cs (i + 1)) T es .no)) hbst (fun j => lk_set1' _ _ _) (sat.hb _ _ hl).1 (show HL.ltOk S.n β (.arr (.cs (i + 1)) T es .no) from trivial)
        have hsub2 : ∀ bb ∈ fs2.flatten, bb ∈ ϕ h := fun bb hbb => by rw [hϕ]; simp [hbb]
        have ap2 : Apart (set1 (strike [h] S.A) h (.arr (.cs (i + 1)) T es .no)) (upd ϕ h (b :: g3)) (fs2.flatten ++ []) := by
          refine apart_put (ap.mono fun bb hbb => hsub2 bb (by simpa using hbb)) (fun j => lk_set1' _ _ _) ?_
          intro bb hbb hm
          simp only [List.append_nil] at hm
          rcases List.mem_cons.1 hbb with rfl | hbb
          · exact hbn (by simp [hm])
          · exact m3 bb (by simp [hm]) bb hbb rfl
        obtain ⟨β', ϕ', lay⟩ := introL_own noP (fun _ => rfl) ti.leaves ps v2 fs2 [] 0 S.n _ β _ hLD hput hbput (by simpa using m5) (fun bb hbb => ⟨sat.hp.own _ _ hl bb (by simpa [owned] using hsub2 bb hbb), sat.hp.all _ _ hl trivial bb (hsub2 bb hbb)⟩) ap2
        obtain ⟨hi1, hi2⟩ := introV_by (n := S.n) (j := 0) (o := .dp) (q := noP) hcase
        simp only [Prod.ext_iff] at hi1
        refine ⟨loadHy_case (Lo.lv ⟨fs2, rfl, hL2⟩) hlv, _, w, β', ϕ', .inl (hrun w (Fr.refl _ _) _ _ β' hi2 lay.vals), ⟨fun _ => rfl, lay.bt, ?_, ?_, ?_, byl_ok hi2 lay.oks, ?_, sat.fr⟩, fun _ => ⟨rfl, hrun w (Fr.refl _ _) _ _ β' hi2 lay.vals, .inr fun w1 hw1 => hrun w1 hw1 _ _ β' hi2 lay.vals⟩, fun _ => Fr.refl _ _⟩
        · rw [hi1.1]; exact lay.hp
        · rw [hi1.1, hi1.2]; exact lay.hb
        · rw [hi1.2]; exact byl_lt hi2 lay.lts
        · rw [hi1.2]; exact lay.le
      · cases hR
    · -- out of what is read or owned
      rename_i ow T es p hncs hl
      have hnc : ∀ k, ow ≠ .cs k := fun k e => hncs k (by rw [e])
      split at hR
      · rename_i hlen
        cases hR
        obtain ⟨hob1, hob2⟩ := hob
        obtain ⟨q1, q2, q3, q4, q5⟩ := hob1 rfl
        replace x1 := x1 q1
        obtain ⟨x3, bx, ox, hbx⟩ := x2 q1
        rw [val_elp hbx] at x3
        obtain ⟨b, o', cap, c, t', fr, cs, f1, hv, hϕ, hblk, hS, hle, hL, hc⟩ := lv_sl (hl_lv sat hl hnc) (by omega)
        have haddr : addrOf (β h).v = some (b, o') := by rw [hv]; rfl
        rw [haddr] at hbx
        simp only [Option.some.injEq, Prod.mk.injEq] at hbx
        obtain ⟨rfl, rfl⟩ := hbx
        obtain ⟨v1, v2, v3, g1, g2, g3, ps, rfl, rfl, hl1, hl2, hps, hL2, _, _, hcase, hlv, hcell, hrun⟩ := run_loadEl (lok_lv w) hTk ho hblk hS hL hc hlen q2 q3 q4 q5 x3
        have hsub : ∀ b' ∈ g2, b' ∈ ϕ h := fun b' hb' => by rw [hϕ]; simp [hb']
        obtain ⟨rs, hrs⟩ : ∃ rs, viewE ow h = .vw rs := by
          cases ow <;> first | exact ⟨_, rfl⟩ | exact absurd rfl (hnc _)
        have hview : ViewOk w0.heap.size F S.A ϕ S.n g2 rs := by
          refine viewOk_of sat.hp sat.hb hl trivial hsub ?_ ?_ ?_ (by simp)
          · cases ow <;> simp only [viewE, Own.vw.injEq] at hrs <;> subst hrs <;> simp [roots]
          · cases ow <;> simp only [viewE, Own.vw.injEq] at hrs <;> subst hrs <;> simp [roots] <;> exact fun r hr => .inr hr
          · cases ow with
            | vw rs' => right; simp [owned]
            | sh =>
              right
              intro b' hb' hm
              have := sat.hp.nd _ _ hl b _ hϕ
              rw [hϕ] at hb'
              simp only [owned, List.take_succ_cons, List.take_zero, List.mem_singleton] at hb'
              subst hb'
              exact this (by simp [hm])
            | dp => left; simp only [viewE, Own.vw.injEq] at hrs; subst hrs; simp
            | cs k => exact absurd rfl (hnc k)
        have hpths : PthsOk S.A β w rs (pathE ow h i) off ti.leaves ps v2 := by
          cases ow with
          | dp =>
            simp only [viewE, Own.vw.injEq] at hrs
            subst hrs
            refine pths_el hl (by simp) q4 haddr hblk _ _ _ _ ?_ ?_ ?_
            · intro y t hy
              rw [← q3] at hy
              simp only [leafAt, List.getElem?_take, List.getElem?_drop] at hy
              split at hy
              · exact hy
              · cases hy
            · intro y q hy
              rw [hps] at hy
              simp only [List.getElem?_take, List.getElem?_drop] at hy
              split at hy
              · exact hy
              · cases hy
            · intro y v hy
              have hy2 : y < ti.sz := by rw [← hl2]; exact (List.getElem?_eq_some_iff.1 hy).1
              rw [hcell y hy2]; exact hy
          | _ => exact pthsOk_no
        obtain ⟨β', ϕ', a1, a2, a3, a5, a6, a7, a8, a9⟩ := introL_view rs (pathE ow h i) ti.leaves ps v2 g2 off S.n S.A β ϕ hL2 sat.hp sat.hb hview hpths
        rw [hrs]
        obtain ⟨hi1, hi2⟩ := introV_by (n := S.n) (j := off) (o := .vw rs) (q := pathE ow h i) hcase
        simp only [Prod.ext_iff] at hi1
        refine ⟨loadHy_case hL2 hlv, _, w, β', ϕ', .inl (hrun w (Fr.refl _ _) _ _ β' hi2 a5), ⟨fun _ => rfl, a3, ?_, ?_, ?_, byl_ok hi2 a7, ?_, sat.fr⟩, fun _ => ⟨rfl, hrun w (Fr.refl _ _) _ _ β' hi2 a5, .inr fun w1 hw1 => hrun w1 hw1 _ _ β' hi2 a5⟩, fun _ => Fr.refl _ _⟩
        · rw [hi1.1]; exact a1
        · rw [hi1.1, hi1.2]; exact a2
        · rw [hi1.2]; exact byl_lt hi2 a6
        · rw [hi1.2]; exact a8
      · cases hR
    · -- out of an array
      rename_i ow T es hl
      split at hR
      · rename_i hlen
        cases hR
        obtain ⟨q1, q2, q3, q4, q5, q6⟩ := hob rfl
        replace x1 := x1 q1
        obtain ⟨x3, bx, ox, hbx⟩ := x2 q1
        rw [val_elp hbx] at x3
        obtain ⟨_, hS, b, t', c, hv, hϕ, hblk, hL⟩ := sat.hp.sat _ _ hl
        have haddr : addrOf (β h).v = some (b, 0) := by rw [hv]; rfl
        rw [haddr] at hbx
        simp only [Option.some.injEq, Prod.mk.injEq] at hbx
        obtain ⟨rfl, rfl⟩ := hbx
        obtain ⟨v1, v2, v3, g1, g2, g3, ps, hcs, hf, hl1, hl2, hps, hL2, _, _, hcase, hlv, hcell, hrun⟩ := run_loadEl (lok_lv w) hTk ho hblk hS hL (show (c.toList.drop 0).take c.toList.length = c.toList by rw [List.drop_zero, List.take_length]) hlen q2 q3 q4 q5 x3
        obtain ⟨a1, a2, a3, a4⟩ := introL_flat (β := β) .dp noP hL2 (flatLs_iff.1 q6) off S.n
        obtain ⟨hi1, hi2⟩ := introV_by (n := S.n) (j := off) (o := .dp) (q := noP) hcase
        exact snd_pure sat (loadHy_case hL2 hlv) (hrun w (Fr.refl _ _) _ _ β hi2 a2) (byl_lt hi2 (a3 _)) (byl_ok hi2 a4)
      · cases hR
    · cases hR
  · cases hR
end
end Go.Proofs.YtkofjkjcbljkdaaGreatDoor
end

section
namespace Go.Proofs.YtkofjkjcbljkdaaGreatDoor
variable [LaidG]
set_option linter.unusedVariables false
section
variable {P : Program} {E : Env} {N : Nat} {w0 : World} {X F : List Nat} {S : St} {β : Nat → GV} {ϕ : Nat → List Nat} {a : Act} {w w' : World} {o : Oper} {R : RR} {A A' : Hp} {B : Nat}
theorem resL_sound {t : PTy} {x : SV} {ob : Prop} {p : PV} (h : resL A t x = some (ob, p)) (hob : ob) (hp : Holds B X F A β ϕ w) (hk : SV.ok β x) :
    ∃ f, Lv w [t] [p] [SV.val β x] f ∧ ∀ b ∈ f, ∃ i ∈ slsOf [x], ∃ hl, lk A i = some hl ∧ hl ≠ .dead ∧ b ∈ ϕ i := by
  cases t <;> cases x <;> simp only [resL, reduceCtorEq, Option.some.injEq, Prod.mk.injEq] at h
  case int.int k k' n => obtain ⟨rfl, rfl⟩ := h; subst hob; exact ⟨[], .int hk .nil, by simp⟩
  case bool.bool b => obtain ⟨rfl, rfl⟩ := h; exact ⟨[], .bool .nil, by simp⟩
  case str.str l => obtain ⟨rfl, rfl⟩ := h; exact ⟨[], .str hk .nil, by simp⟩
  case list.sl T i =>
    split at h
    · cases h
    · rename_i o T' es p hn hl
      simp only [Option.some.injEq, Prod.mk.injEq] at h
      obtain ⟨rfl, rfl⟩ := h
      subst hob
      exact ⟨ϕ i, hp_lv hp hl (fun k e => hn k (by rw [e])), fun b hb => ⟨i, by simp [slsOf], _, hl, by simp, hb⟩⟩
    · cases h
  case list.nils T => obtain ⟨rfl, rfl⟩ := h; exact ⟨[], .empty .nil, by simp⟩
theorem resLs_sound : ∀ {ts : List PTy} {xs : List SV} {ob : Prop} {ps : List PV}, resLs A ts xs = some (ob, ps) → ob → Holds B X F A β ϕ w → SV.oks β xs →
    ∃ f, Lv w ts ps (SV.vals β xs) f ∧ ∀ b ∈ f, ∃ i ∈ slsOf xs, ∃ hl, lk A i = some hl ∧ hl ≠ .dead ∧ b ∈ ϕ i
  | [], [], ob, ps, h, hob, hp, hk => by cases h; exact ⟨[], .nil, by simp⟩
  | [], x :: xs, ob, ps, h, hob, hp, hk => by cases h
  | t :: ts, [], ob, ps, h, hob, hp, hk => by cases h
  | t :: ts, x :: xs, ob, ps, h, hob, hp, hk => by
    simp only [resLs] at h
    split at h
    · rename_i o1 p o2 qs h1 h2
      cases h
      obtain ⟨f1, q1, q2⟩ := resL_sound h1 hob.1 hp hk.1
      obtain ⟨f2, r1, r2⟩ := resLs_sound h2 hob.2 hp hk.2
      refine ⟨f1 ++ f2, q1.cons r1, fun b hb => ?_⟩
      rcases List.mem_append.1 hb with hb | hb
      · obtain ⟨i, hi, e⟩ := q2 b hb
        refine ⟨i, ?_, e⟩
        cases x <;> simp [slsOf] at hi ⊢
        exact .inl hi
      · obtain ⟨i, hi, e⟩ := r2 b hb
        refine ⟨i, ?_, e⟩
        cases x <;> simp [slsOf, hi]
    · cases h
def Alike : HL → HL → Prop
  | .arr o T es _, .arr o' T' es' _ => T = T' ∧ es = es' ∧ (∀ k, o = .cs k → o' = .cs k) ∧ ((∃ k, o' = .cs k) → ∃ k, o = .cs k)
  | x, y => x = y
theorem Alike.refl (x : HL) : Alike x x := by
  cases x <;> simp [Alike]
theorem Alike.trans {x y z : HL} (h : Alike x y) (h' : Alike y z) : Alike x z := by
  cases x <;> cases y <;> cases z <;> simp only [Alike, reduceCtorEq] at * <;> (try exact h.trans h')
  obtain ⟨rfl, rfl, a, b⟩ := h
  obtain ⟨rfl, rfl, c, d⟩ := h'
  exact ⟨rfl, rfl, fun k e => c k (a k e), fun e => b (d e)⟩
theorem sub_own {L : List PTy → List PV → List Value → List Nat → Prop} (hL0 : LOk w L) {v v' : Value} {T : PTy} {es es' : List PV} {f : List Nat} {lo : Nat} (h : OwnG L w v T es' f) (hlo : lo + es.length ≤ es'.length) (hes : es = (es'.drop lo).take es.length) (hv : subV v v' lo es.length T.wd) :
    ∃ f', OwnG L w v' T es f' ∧ (∀ b ∈ f', b ∈ f) ∧ (f.Nodup → f'.Nodup) ∧ ((∀ b r, f = b :: r → b ∉ r) → ∀ b r, f' = b :: r → b ∉ r) ∧ f'.take 1 = f.take 1 := by
  obtain ⟨ad, l, cap, rfl, rfl⟩ := hv
  rcases h with ⟨rfl, rfl, a, h⟩ | ⟨b, f1, cs, rfl, ⟨⟨o, cap', c, t, fr, hv, hblk, hcap, hle, hmx, hfz, hcs⟩, hlen, hlim⟩, hS, hL⟩
  · simp only [Value.slice.injEq] at h
    obtain ⟨rfl, rfl, rfl⟩ := h
    simp only [List.length_nil] at hlo
    have h0 : es = [] := List.eq_nil_of_length_eq_zero (by omega)
    have hl0 : lo = 0 := by omega
    subst h0; subst hl0
    exact ⟨[], .inl ⟨rfl, rfl, ad, by simp⟩, by simp, by simp, by simp, rfl⟩
  · simp only [Value.slice.injEq] at hv
    obtain ⟨rfl, rfl, rfl⟩ := hv
    have e1 : es' = es'.take lo ++ (es ++ es'.drop (lo + es.length)) := by
      conv => lhs; rw [← List.take_append_drop lo es']
      congr 1
      rw [← List.drop_drop]
      conv => lhs; rw [← List.take_append_drop es.length (es'.drop lo), ← hes]
    have e2 : flatT T es'.length = flatT T lo ++ (flatT T es.length ++ flatT T (es'.length - (lo + es.length))) := by
      rw [← flatT_add, ← flatT_add]; congr 1; omega
    have hP : flatP es' = flatP (es'.take lo) ++ (flatP es ++ flatP (es'.drop (lo + es.length))) := by
      conv => lhs; rw [e1]
      rw [flatP_append, flatP_append]
    have l1 : (flatP (es'.take lo)).length = lo * T.wd := by
      rw [flatP_len fun x hx => hS x (List.mem_of_mem_take hx)]; simp; rw [Nat.min_eq_left (by omega)]
    have hSs : ∀ e ∈ es, Shp T e := fun x hx => by rw [hes] at hx; exact hS x (List.mem_of_mem_drop (List.mem_of_mem_take hx))
    have l2 : (flatP es).length = es.length * T.wd := flatP_len hSs
    rw [e2, hP] at hL
    obtain ⟨v1, v23, g1, g23, rfl, rfl, q1, q23⟩ := hL0.split hL (by rw [flatT_len, l1])
    obtain ⟨v2, v3, g2, g3, rfl, rfl, q2, q3⟩ := hL0.split q23 (by rw [flatT_len, l2])
    have k1 : v1.length = lo * T.wd := by rw [(hL0.lv q1).lens.2, l1]
    have k2 : v2.length = es.length * T.wd := by rw [(hL0.lv q2).lens.2, l2]
    have hcells : (c.toList.drop (o + lo * T.wd)).take v2.length = v2 := by
      have h3 : ((c.toList.drop o).take (v1 ++ (v2 ++ v3)).length).drop (lo * T.wd) = v2 ++ v3 := by
        rw [hcs, ← k1]; simp
      rw [List.drop_take, List.drop_drop] at h3
      have h4 := congrArg (List.take v2.length) h3
      rw [List.take_take] at h4
      have h5 : min v2.length ((v1 ++ (v2 ++ v3)).length - lo * T.wd) = v2.length := by
        simp only [List.length_append]; omega
      rw [h5] at h4
      simpa using h4
    refine ⟨b :: g2, .inr ⟨b, g2, v2, rfl, ⟨?_, k2, by omega⟩, hSs, q2⟩, ?_, ?_, ?_, rfl⟩
    · by_cases hcl : cap = lo
      · have h0 : es = [] := List.eq_nil_of_length_eq_zero (by omega)
        subst h0
        have : v2 = [] := List.eq_nil_of_length_eq_zero (by simpa using k2)
        subst this
        exact ⟨o, 0, c, t, fr, by simp [hcl], hblk, by have : 0 * T.wd = 0 := Nat.zero_mul _; omega, by simp, Nat.zero_le _, hfz, by simp⟩
      · refine ⟨o + lo * T.wd, cap - lo, c, t, fr, by rw [if_neg hcl]; simp [addr_add], hblk, ?_, by omega, by omega, hfz, hcells⟩
        have : lo * T.wd + (cap - lo) * T.wd = cap * T.wd := by rw [← Nat.add_mul]; congr 1; omega
        omega
    · intro x hx; simp at hx ⊢; rcases hx with rfl | hx
      · exact .inl rfl
      · exact .inr (.inr (.inl hx))
    · intro hn
      obtain ⟨n1, n2⟩ := List.nodup_cons.1 hn
      refine List.nodup_cons.2 ⟨fun hm => n1 (by simp [hm]), ?_⟩
      exact (List.nodup_append.1 (List.nodup_append.1 n2).2.1).1
    · intro hn b' r' e
      cases e
      intro hm
      exact hn b _ rfl (by simp [hm])
theorem prom_sound {n : Nat} (hp : Holds B X F A β ϕ w) (hb : Bd n β A) (h : Nat) : ∃ ϕ', Holds B X F (prom A h) β ϕ' w ∧ Bd n β (prom A h) ∧ (∀ j hl, lk (prom A h) j = some hl → hl ≠ .dead → ∃ hl0, lk A j = some hl0 ∧ Alike hl hl0) ∧
    (∀ j hl, lk (prom A h) j = some hl → hl ≠ .dead → ∀ b ∈ ϕ' j, ∃ i hl0, lk A i = some hl0 ∧ hl0 ≠ .dead ∧ b ∈ ϕ i) ∧ (∀ j, lk A j = none → lk (prom A h) j = none) ∧
    (∀ j t o cs, lk A j = some (.box o t cs) → lk (prom A h) j = some (.box o t cs) ∧ ϕ' j = ϕ j) ∧ (∀ j o T cs, lk A j = some (.abx o T cs) → lk (prom A h) j = some (.abx o T cs) ∧ ϕ' j = ϕ j) := by
  have idle : ∃ ϕ', Holds B X F A β ϕ' w ∧ Bd n β A ∧ (∀ j hl, lk A j = some hl → hl ≠ .dead → ∃ hl0, lk A j = some hl0 ∧ Alike hl hl0) ∧
    (∀ j hl, lk A j = some hl → hl ≠ .dead → ∀ b ∈ ϕ' j, ∃ i hl0, lk A i = some hl0 ∧ hl0 ≠ .dead ∧ b ∈ ϕ i) ∧ (∀ j, lk A j = none → lk A j = none) ∧
    (∀ j t o cs, lk A j = some (.box o t cs) → lk A j = some (.box o t cs) ∧ ϕ' j = ϕ j) ∧ (∀ j o T cs, lk A j = some (.abx o T cs) → lk A j = some (.abx o T cs) ∧ ϕ' j = ϕ j) :=
    ⟨ϕ, hp, hb, fun j hl hj _ => ⟨hl, hj, .refl _⟩, fun j hl hj hd b hb => ⟨j, hl, hj, hd, hb⟩, fun j hj => hj, fun j t o cs hj => ⟨hj, rfl⟩, fun j o T cs hj => ⟨hj, rfl⟩⟩
  have main : ∀ (rs : List Nat) (T : PTy) (es : List PV) (r lo : Nat) (m : Own) (hm : m = .dp ∨ m = .sh) (T' : PTy) (es1 : List PV) (p1 : Pth), lk A h = some (.arr (.vw rs) T es (.sub r lo)) → lk A r = some (.arr m T' es1 p1) →
      ∃ ϕ', Holds B X F (set1 (strike [r] A) h (.arr m T es .no)) β ϕ' w ∧ Bd n β (set1 (strike [r] A) h (.arr m T es .no)) ∧ (∀ j hl, lk (set1 (strike [r] A) h (.arr m T es .no)) j = some hl → hl ≠ .dead → ∃ hl0, lk A j = some hl0 ∧ Alike hl hl0) ∧
      (∀ j hl, lk (set1 (strike [r] A) h (.arr m T es .no)) j = some hl → hl ≠ .dead → ∀ b ∈ ϕ' j, ∃ i hl0, lk A i = some hl0 ∧ hl0 ≠ .dead ∧ b ∈ ϕ i) ∧ (∀ j, lk A j = none → lk (set1 (strike [r] A) h (.arr m T es .no)) j = none) ∧
      (∀ j t o cs, lk A j = some (.box o t cs) → lk (set1 (strike [r] A) h (.arr m T es .no)) j = some (.box o t cs) ∧ ϕ' j = ϕ j) ∧ (∀ j o T0 cs, lk A j = some (.abx o T0 cs) → lk (set1 (strike [r] A) h (.arr m T es .no)) j = some (.abx o T0 cs) ∧ ϕ' j = ϕ j) := by
    intro rs T es r lo m hm T' es1 p1 hh hr
    obtain ⟨h1, es', p', h2, h3, h4, h5⟩ := hp.pt _ _ hh
    have hown : (m = .dp ∧ OwnD w (β r).v T es' (ϕ r) ∧ lk A r = some (.arr .dp T es' p')) ∨ (m = .sh ∧ OwnS w (β r).v T es' (ϕ r) ∧ lk A r = some (.arr .sh T es' p')) := by
      rcases h2 with h2 | h2
      · rw [h2] at hr; cases hr; exact .inl ⟨rfl, hp.sat _ _ h2, h2⟩
      · rw [h2] at hr; cases hr; exact .inr ⟨rfl, hp.sat _ _ h2, h2⟩
    have hrh : r ≠ h := by
      intro e; subst e
      rcases h2 with h2 | h2 <;> (rw [h2] at hh; cases hh)
    obtain ⟨f', o1, o2, o3, o4, o5⟩ : ∃ f', HLSat w (β h) β f' (.arr m T es .no) ∧ (∀ b ∈ f', b ∈ ϕ r) ∧ ((ϕ r).Nodup → f'.Nodup) ∧ ((∀ b r', ϕ r = b :: r' → b ∉ r') → ∀ b r', f' = b :: r' → b ∉ r') ∧ f'.take 1 = (ϕ r).take 1 := by
      rcases hown with ⟨rfl, ho, _⟩ | ⟨rfl, ho, _⟩
      · exact sub_own (lok_lo w) ho h3 h4 h5
      · exact sub_own (lok_lv w) ho h3 h4 h5
    have hrA : lk A r = some (.arr m T es' p') := by rcases hown with ⟨rfl, _, h⟩ | ⟨rfl, _, h⟩ <;> exact h
    have hnd : ndOk f' (.arr m T es .no) := by
      have := hp.nd _ _ hrA
      rcases hm with rfl | rfl
      · exact o3 this
      · exact o4 this
    have hos : ∀ b ∈ owned f' (.arr m T es .no), b ∈ owned (ϕ r) (.arr m T es' p') := by
      intro b hb
      rcases hm with rfl | rfl
      · exact o2 b hb
      · simp only [owned] at hb ⊢; rw [← o5]; exact hb
    have ap : Apart (strike [r] A) ϕ (owned (ϕ r) (.arr m T es' p')) := strike_apart hp fun b hb => ⟨r, by simp, _, hrA, hb⟩
    have hdead : ∀ hl, lk (strike [r] A) h = some hl → hl = .dead := by
      intro hl hj
      by_cases hd : hl = .dead
      · exact hd
      · obtain ⟨e1, e2, e3⟩ := strike_lk hj hd
        rw [hh] at e1; cases e1
        exact absurd (by simp) (e3 r h1)
    have hput := (hp.struck [r]).put (A' := set1 (strike [r] A) h (.arr m T es .no)) (fun j => lk_set1' _ _ _) hdead o1 (fun b hb => hp.own _ _ hrA b (hos b hb)) (fun _ b hb => hp.all _ _ hrA (by rcases hm with rfl | rfl <;> trivial) b (o2 b hb)) hnd (ap.mono hos)
      (fun i hl hi _ b hb hm2 => by
        by_cases hd : hl = .dead
        · subst hd; simp [owned] at hb
        · obtain ⟨e1, e2, e3⟩ := strike_lk hi hd
          exact hp.dj i r hl _ e1 hrA (by simpa using e2) (by rcases hm with rfl | rfl <;> simp [roots]) (by simp) b hb (o2 b hm2))
      (by rcases hm with rfl | rfl <;> trivial) (fun _ _ _ e => by cases e) (by rcases hm with rfl | rfl <;> simp [roots])
    have hcase : ∀ j hl, lk (set1 (strike [r] A) h (.arr m T es .no)) j = some hl → hl ≠ .dead → (j = h ∧ hl = .arr m T es .no) ∨ (j ≠ h ∧ j ≠ r ∧ lk A j = some hl) := by
      intro j hl hj hd
      rw [lk_set1'] at hj
      split at hj
      · rename_i e; cases hj; exact .inl ⟨e, rfl⟩
      · rename_i e
        obtain ⟨e1, e2, _⟩ := strike_lk hj hd
        exact .inr ⟨e, by simpa using e2, e1⟩
    refine ⟨_, hput, bd_put (strike_bd hb _) (fun j => lk_set1' _ _ _) (hb _ _ hh).1 (by rcases hm with rfl | rfl <;> trivial), ?_, ?_, ?_, ?_, ?_⟩
    · intro j hl hj hd
      rcases hcase j hl hj hd with ⟨rfl, rfl⟩ | ⟨_, _, e⟩
      · refine ⟨_, hh, ?_⟩
        exact ⟨rfl, rfl, fun k e => (by rcases hm with rfl | rfl <;> cases e), fun ⟨k, e⟩ => (by cases e)⟩
      · exact ⟨hl, e, .refl _⟩
    · intro j hl hj hd b hb'
      rcases hcase j hl hj hd with ⟨rfl, rfl⟩ | ⟨hne, _, e⟩
      · rw [upd_eq] at hb'; exact ⟨r, _, hrA, by simp, o2 b hb'⟩
      · rw [upd_ne _ _ _ hne] at hb'; exact ⟨j, hl, e, hd, hb'⟩
    · intro j hj
      have : j ≠ h := fun e => by subst e; rw [hh] at hj; cases hj
      rw [lk_set1', if_neg this, lk_strike, hj]; rfl
    · intro j t o cs hj
      have h6 : j ≠ h := fun e => by subst e; rw [hh] at hj; cases hj
      have h7 : j ≠ r := fun e => by subst e; rw [hrA] at hj; cases hj
      exact ⟨by rw [lk_set1', if_neg h6]; exact strike_live hj (by simpa using h7) (by simp [roots]), upd_ne _ _ _ h6⟩
    · intro j o T0 cs hj
      have h6 : j ≠ h := fun e => by subst e; rw [hh] at hj; cases hj
      have h7 : j ≠ r := fun e => by subst e; rw [hrA] at hj; cases hj
      exact ⟨by rw [lk_set1', if_neg h6]; exact strike_live hj (by simpa using h7) (by simp [roots]), upd_ne _ _ _ h6⟩
  unfold prom
  split
  · rename_i rs T es r lo hh
    split
    · rename_i T' es1 p1 hr
      exact main rs T es r lo .dp (.inl rfl) T' es1 p1 hh hr
    · rename_i T' es1 p1 hr
      exact main rs T es r lo .sh (.inr rfl) T' es1 p1 hh hr
    · exact idle
  · exact idle
theorem proms_sound : ∀ (hs : List Nat) {A : Hp} {ϕ : Nat → List Nat} {n : Nat}, Holds B X F A β ϕ w → Bd n β A → ∃ ϕ', Holds B X F (proms A hs) β ϕ' w ∧ Bd n β (proms A hs) ∧ (∀ j hl, lk (proms A hs) j = some hl → hl ≠ .dead → ∃ hl0, lk A j = some hl0 ∧ Alike hl hl0) ∧
    (∀ j hl, lk (proms A hs) j = some hl → hl ≠ .dead → ∀ b ∈ ϕ' j, ∃ i hl0, lk A i = some hl0 ∧ hl0 ≠ .dead ∧ b ∈ ϕ i) ∧ (∀ j, lk A j = none → lk (proms A hs) j = none) ∧
    (∀ j t o cs, lk A j = some (.box o t cs) → lk (proms A hs) j = some (.box o t cs) ∧ ϕ' j = ϕ j) ∧ (∀ j o T cs, lk A j = some (.abx o T cs) → lk (proms A hs) j = some (.abx o T cs) ∧ ϕ' j = ϕ j)
  | [], A, ϕ, n, hp, hb => ⟨ϕ, hp, hb, fun j hl hj _ => ⟨hl, hj, .refl _⟩, fun j hl hj hd b hb => ⟨j, hl, hj, hd, hb⟩, fun j hj => hj, fun j t o cs hj => ⟨hj, rfl⟩, fun j o T cs hj => ⟨hj, rfl⟩⟩
  | h :: hs, A, ϕ, n, hp, hb => by
    obtain ⟨ϕ1, a1, a2, a3, a4, a5, a6, a7⟩ := prom_sound hp hb h
    obtain ⟨ϕ2, b1, b2, b3, b4, b5, b6, b7⟩ := proms_sound hs a1 a2
    refine ⟨ϕ2, b1, b2, ?_, ?_, fun j hj => b5 j (a5 j hj), fun j t o cs hj => ⟨(b6 j t o cs (a6 j t o cs hj).1).1, (b6 j t o cs (a6 j t o cs hj).1).2.trans (a6 j t o cs hj).2⟩, fun j o T cs hj => ⟨(b7 j o T cs (a7 j o T cs hj).1).1, (b7 j o T cs (a7 j o T cs hj).1).2.trans (a7 j o T cs hj).2⟩⟩
    · intro j hl hj hd
      obtain ⟨hl1, e1, e2⟩ := b3 j hl hj hd
      have hd1 : hl1 ≠ .dead := by
        intro e; subst e
        cases hl <;> simp [Alike] at e2; exact hd rfl
      obtain ⟨hl0, e3, e4⟩ := a3 j hl1 e1 hd1
      exact ⟨hl0, e3, e2.trans e4⟩
    · intro j hl hj hd b hb'
      obtain ⟨i, hl1, e1, e2, e3⟩ := b4 j hl hj hd b hb'
      exact a4 i hl1 e1 e2 b e3
theorem unpath_alike (hs : List Nat) (x : HL) : (∀ f, owned f (unpath hs x) = owned f x) ∧ roots (unpath hs x) = roots x ∧ (unpath hs x = .dead ↔ x = .dead) ∧ (∀ f, ndOk f (unpath hs x) ↔ ndOk f x) ∧ (∀ (w : World) g β f, HLSat w g β f (unpath hs x) ↔ HLSat w g β f x) ∧ (∀ o t cs, unpath hs x = .box o t cs ↔ x = .box o t cs) ∧ Alike (unpath hs x) x := by
  have idle : unpath hs x = x → (∀ f, owned f (unpath hs x) = owned f x) ∧ roots (unpath hs x) = roots x ∧ (unpath hs x = .dead ↔ x = .dead) ∧ (∀ f, ndOk f (unpath hs x) ↔ ndOk f x) ∧ (∀ (w : World) g β f, HLSat w g β f (unpath hs x) ↔ HLSat w g β f x) ∧ (∀ o t cs, unpath hs x = .box o t cs ↔ x = .box o t cs) ∧ Alike (unpath hs x) x := by
    intro e; rw [e]; exact ⟨fun _ => rfl, rfl, Iff.rfl, fun _ => Iff.rfl, fun _ _ _ _ => Iff.rfl, fun _ _ _ => Iff.rfl, .refl _⟩
  have no : ∀ rs T es p, x = .arr (.vw rs) T es p → unpath hs x = .arr (.vw rs) T es .no → (∀ f, owned f (unpath hs x) = owned f x) ∧ roots (unpath hs x) = roots x ∧ (unpath hs x = .dead ↔ x = .dead) ∧ (∀ f, ndOk f (unpath hs x) ↔ ndOk f x) ∧ (∀ (w : World) g β f, HLSat w g β f (unpath hs x) ↔ HLSat w g β f x) ∧ (∀ o t cs, unpath hs x = .box o t cs ↔ x = .box o t cs) ∧ Alike (unpath hs x) x := by
    intro rs T es p e e'
    rw [e', e]
    exact ⟨fun _ => rfl, rfl, by simp, fun _ => Iff.rfl, fun _ _ _ _ => Iff.rfl, by simp, rfl, rfl, fun k e => (by cases e), fun ⟨k, e⟩ => (by cases e)⟩
  cases x with
  | arr o T es p =>
    cases o <;> (try exact idle rfl)
    rename_i rs
    cases p with
    | no => exact idle rfl
    | el r i j =>
      by_cases h : memB hs r = true
      · exact no rs T es _ rfl (by simp [unpath, h])
      · exact idle (by simp [unpath, h])
    | sub r lo =>
      by_cases h : memB hs r = true
      · exact no rs T es _ rfl (by simp [unpath, h])
      · exact idle (by simp [unpath, h])
  | _ => exact idle rfl
theorem stillH_alike (x : HL) : (∀ f, ∀ b ∈ owned f (stillH x), b ∈ owned f x) ∧ roots (stillH x) = roots x ∧ (stillH x = .dead ↔ x = .dead) ∧ (∀ f, ndOk f x → ndOk f (stillH x)) ∧ (∀ (w : World) g β f, HLSat w g β f x → HLSat w g β f (stillH x)) ∧ (∀ o t cs, stillH x = .box o t cs ↔ x = .box o t cs) ∧ Alike (stillH x) x := by
  have idle : stillH x = x → (∀ f, ∀ b ∈ owned f (stillH x), b ∈ owned f x) ∧ roots (stillH x) = roots x ∧ (stillH x = .dead ↔ x = .dead) ∧ (∀ f, ndOk f x → ndOk f (stillH x)) ∧ (∀ (w : World) g β f, HLSat w g β f x → HLSat w g β f (stillH x)) ∧ (∀ o t cs, stillH x = .box o t cs ↔ x = .box o t cs) ∧ Alike (stillH x) x := by
    intro e; rw [e]; exact ⟨fun _ _ h => h, rfl, Iff.rfl, fun _ h => h, fun _ _ _ _ h => h, fun _ _ _ => Iff.rfl, .refl _⟩
  cases x with
  | arr o T es p =>
    cases o <;> (try exact idle rfl)
    · exact ⟨fun f b h => by simp [stillH, owned] at h, rfl, by simp [stillH], fun _ _ => trivial, fun _ _ _ _ h => OwnS.lv h, by simp [stillH], rfl, rfl, fun k e => (by cases e), fun ⟨k, e⟩ => (by cases e)⟩
    · exact ⟨fun f b h => by simp [stillH, owned] at h, rfl, by simp [stillH], fun _ _ => trivial, fun _ _ _ _ h => OwnD.lv h, by simp [stillH], rfl, rfl, fun k e => (by cases e), fun ⟨k, e⟩ => (by cases e)⟩
  | _ => exact idle rfl
theorem still_lk {hs : List Nat} {j : Nat} {hl : HL} (h : lk (still hs A) j = some hl) : ∃ hl0, lk A j = some hl0 ∧ hl = unpath hs (if memB hs j then stillH hl0 else hl0) := by
  rw [lk_still] at h
  cases hA : lk A j with
  | none => rw [hA] at h; cases h
  | some hl0 => rw [hA] at h; exact ⟨hl0, rfl, by simpa using h.symm⟩
theorem Holds.stilled (h : Holds B X F A β ϕ w) (hs : List Nat) : Holds B X F (still hs A) β ϕ w := by
  have fact : ∀ (j : Nat) (x : HL), (∀ f, ∀ b ∈ owned f (unpath hs (if memB hs j then stillH x else x)), b ∈ owned f x) ∧ roots (unpath hs (if memB hs j then stillH x else x)) = roots x ∧ (unpath hs (if memB hs j then stillH x else x) = .dead ↔ x = .dead) ∧
      (∀ f, ndOk f x → ndOk f (unpath hs (if memB hs j then stillH x else x))) ∧ (∀ (w : World) g β f, HLSat w g β f x → HLSat w g β f (unpath hs (if memB hs j then stillH x else x))) ∧ (∀ o t cs, unpath hs (if memB hs j then stillH x else x) = .box o t cs ↔ x = .box o t cs) := by
    intro j x
    obtain ⟨a1, a2, a3, a4, a5, a6, _⟩ := unpath_alike hs (if memB hs j then stillH x else x)
    split at a1 <;> split <;> (try (exfalso; simp_all; done))
    · obtain ⟨b1, b2, b3, b4, b5, b6, _⟩ := stillH_alike x
      rename_i hm _
      simp only [hm, if_true] at a2 a3 a4 a5 a6
      exact ⟨fun f b hb => b1 f b (by rw [a1] at hb; exact hb), a2.trans b2, a3.trans b3, fun f hn => (a4 f).2 (b4 f hn), fun w g β f hh => (a5 w g β f).2 (b5 w g β f hh), fun o t cs => (a6 o t cs).trans (b6 o t cs)⟩
    · rename_i hm _
      simp only [hm, if_false, Bool.false_eq_true] at a2 a3 a4 a5 a6
      exact ⟨fun f b hb => by rw [a1] at hb; exact hb, a2, a3, fun f hn => (a4 f).2 hn, fun w g β f hh => (a5 w g β f).2 hh, a6⟩
  refine ⟨h.pl, ?_, ?_, ?_, ?_, ?_, ?_, ?_⟩
  · intro j hl hj
    obtain ⟨hl0, e1, rfl⟩ := still_lk hj
    exact (fact j hl0).2.2.2.2.1 _ _ _ _ (h.sat j _ e1)
  · intro j hl hj b hb
    obtain ⟨hl0, e1, rfl⟩ := still_lk hj
    exact h.own j _ e1 b ((fact j hl0).1 _ b hb)
  · intro j hl hj hd
    obtain ⟨hl0, e1, rfl⟩ := still_lk hj
    refine h.all j _ e1 ?_
    revert hd
    cases hl0 with
    | arr o T es p => intro _; trivial
    | _ => by_cases hm : memB hs j = true <;> simp [hm, stillH, unpath, isA]
  · intro j hl hj
    obtain ⟨hl0, e1, rfl⟩ := still_lk hj
    exact (fact j hl0).2.2.2.1 _ (h.nd j _ e1)
  · intro i j hl hl' hi hj hne hnv hdd b hb
    obtain ⟨hl0, e1, rfl⟩ := still_lk hi
    obtain ⟨hl1, e3, rfl⟩ := still_lk hj
    exact h.dj i j _ _ e1 e3 hne (by rw [(fact j hl1).2.1] at hnv; exact hnv) (fun e => hdd ((fact j hl1).2.2.1.2 e)) b ((fact i hl0).1 _ b hb)
  · intro j hl hj
    obtain ⟨hl0, e1, e2⟩ := still_lk hj
    cases hl with
    | arr o T es p =>
      cases o <;> (try trivial)
      rename_i rs
      cases p with
      | no => trivial
      | el r i j' =>
        have e3 : hl0 = .arr (.vw rs) T es (.el r i j') ∧ memB hs r = false := by
          cases hl0 with
          | arr o' T' es' p' =>
            cases o' <;> cases p' <;> by_cases hm : memB hs j = true <;> simp only [hm, if_true, if_false, Bool.false_eq_true, stillH, unpath] at e2 <;> (try cases e2) <;> (split at e2 <;> cases e2) <;> (rename_i hr; exact ⟨rfl, by simpa using hr⟩)
          | _ => by_cases hm : memB hs j = true <;> simp [hm, stillH, unpath] at e2
        obtain ⟨rfl, hr⟩ := e3
        obtain ⟨h1, T', es', p', h2, h3⟩ := h.pt j _ e1
        exact ⟨h1, T', es', p', by rw [lk_still, h2]; simp [hr, unpath], h3⟩
      | sub r lo =>
        have e3 : hl0 = .arr (.vw rs) T es (.sub r lo) ∧ memB hs r = false := by
          cases hl0 with
          | arr o' T' es' p' =>
            cases o' <;> cases p' <;> by_cases hm : memB hs j = true <;> simp only [hm, if_true, if_false, Bool.false_eq_true, stillH, unpath] at e2 <;> (try cases e2) <;> (split at e2 <;> cases e2) <;> (rename_i hr; exact ⟨rfl, by simpa using hr⟩)
          | _ => by_cases hm : memB hs j = true <;> simp [hm, stillH, unpath] at e2
        obtain ⟨rfl, hr⟩ := e3
        obtain ⟨h1, es', p', h2, h3⟩ := h.pt j _ e1
        refine ⟨h1, es', p', ?_, h3⟩
        rcases h2 with h2 | h2
        · exact .inl (by rw [lk_still, h2]; simp [hr, unpath])
        · exact .inr (by rw [lk_still, h2]; simp [hr, unpath])
    | _ => trivial
  · intro j hl hj r hr o t cs hb
    obtain ⟨hl0, e1, rfl⟩ := still_lk hj
    rw [(fact j hl0).2.1] at hr
    obtain ⟨hl1, e3, e4⟩ := still_lk hb
    exact h.rt j _ e1 r hr o t cs (e3.trans (by rw [(((fact r hl1).2.2.2.2.2) o t cs).1 e4.symm]))
theorem still_bd {n : Nat} (h : Bd n β A) (hs : List Nat) : Bd n β (still hs A) := by
  intro j hl hj
  obtain ⟨hl0, e1, rfl⟩ := still_lk hj
  obtain ⟨h1, h2⟩ := h j hl0 e1
  refine ⟨h1, ?_⟩
  cases hl0 with
  | arr o T es p =>
    cases o <;> cases p <;> by_cases hm : memB hs j = true <;> simp only [hm, if_true, if_false, Bool.false_eq_true, stillH, unpath] <;> (try trivial) <;> (try exact h2) <;> (try (split <;> exact h2)) <;> (intro r hr; cases hr)
  | _ => by_cases hm : memB hs j = true <;> simp only [hm, if_true, if_false, Bool.false_eq_true, stillH, unpath] <;> exact h2
def fsOf (ϕ : Nat → List Nat) : List SV → List (List Nat)
  | [] => []
  | .sl h :: xs => ϕ h :: fsOf ϕ xs
  | _ :: xs => [] :: fsOf ϕ xs
theorem fsOf_flat (ϕ : Nat → List Nat) : ∀ xs : List SV, (fsOf ϕ xs).flatten = ((slsOf xs).map ϕ).flatten
  | [] => rfl
  | x :: xs => by
    have ih := fsOf_flat ϕ xs
    cases x <;> simp [fsOf, slsOf, ih]
theorem resLs_own {ϕ' : Nat → List Nat} : ∀ {ts : List PTy} {xs : List SV} {ob : Prop} {ps : List PV}, resLs A ts xs = some (ob, ps) → ob → SV.oks β xs →
    (∀ h ∈ slsOf xs, ∀ o T es p, lk A h = some (.arr o T es p) → OwnD w (β h).v T es (ϕ' h)) → LoD w ts ps (SV.vals β xs) (fsOf ϕ' xs)
  | [], [], ob, ps, h, hob, hk, ho => by cases h; exact .nil
  | [], x :: xs, ob, ps, h, hob, hk, ho => by cases h
  | t :: ts, [], ob, ps, h, hob, hk, ho => by cases h
  | t :: ts, x :: xs, ob, ps, h, hob, hk, ho => by
    simp only [resLs] at h
    split at h
    · rename_i o1 p o2 qs h1 h2
      cases h
      cases t <;> cases x <;> simp only [resL, reduceCtorEq, Option.some.injEq, Prod.mk.injEq] at h1
      case int.int k k' n => obtain ⟨rfl, rfl⟩ := h1; have := hob.1; subst this; exact .int hk.1 (resLs_own h2 hob.2 hk.2 ho)
      case bool.bool b => obtain ⟨rfl, rfl⟩ := h1; exact .bool (resLs_own h2 hob.2 hk.2 ho)
      case str.str l => obtain ⟨rfl, rfl⟩ := h1; exact .str hk.1 (resLs_own h2 hob.2 hk.2 ho)
      case list.sl T i =>
        split at h1
        · cases h1
        · rename_i o T' es p hn hl
          simp only [Option.some.injEq, Prod.mk.injEq] at h1
          obtain ⟨rfl, rfl⟩ := h1
          have := hob.1; subst this
          exact .list (ho i (by simp [slsOf]) _ _ _ _ hl) (resLs_own h2 hob.2 hk.2 fun h hh => ho h (by simp [slsOf, hh]))
        · cases h1
      case list.nils T =>
        obtain ⟨rfl, rfl⟩ := h1
        exact .list (.inl ⟨rfl, rfl, none, rfl⟩) (resLs_own h2 hob.2 hk.2 ho)
    · cases h
theorem resLs_lv {ϕ' : Nat → List Nat} : ∀ {ts : List PTy} {xs : List SV} {ob : Prop} {ps : List PV}, resLs A ts xs = some (ob, ps) → ob → SV.oks β xs →
    (∀ h ∈ slsOf xs, ∀ o T es p, lk A h = some (.arr o T es p) → Lv w [.list T] [.list es] [(β h).v] (ϕ' h)) → Lv w ts ps (SV.vals β xs) (fsOf ϕ' xs).flatten
  | [], [], ob, ps, h, hob, hk, ho => by cases h; exact .nil
  | [], x :: xs, ob, ps, h, hob, hk, ho => by cases h
  | t :: ts, [], ob, ps, h, hob, hk, ho => by cases h
  | t :: ts, x :: xs, ob, ps, h, hob, hk, ho => by
    simp only [resLs] at h
    split at h
    · rename_i o1 p o2 qs h1 h2
      cases h
      cases t <;> cases x <;> simp only [resL, reduceCtorEq, Option.some.injEq, Prod.mk.injEq] at h1
      case int.int k k' n => obtain ⟨rfl, rfl⟩ := h1; have := hob.1; subst this; exact .int hk.1 (resLs_lv h2 hob.2 hk.2 ho)
      case bool.bool b => obtain ⟨rfl, rfl⟩ := h1; exact .bool (resLs_lv h2 hob.2 hk.2 ho)
      case str.str l => obtain ⟨rfl, rfl⟩ := h1; exact .str hk.1 (resLs_lv h2 hob.2 hk.2 ho)
      case list.sl T i =>
        split at h1
        · cases h1
        · rename_i o T' es p hn hl
          simp only [Option.some.injEq, Prod.mk.injEq] at h1
          obtain ⟨rfl, rfl⟩ := h1
          have := hob.1; subst this
          exact (ho i (by simp [slsOf]) _ _ _ _ hl).cons (resLs_lv h2 hob.2 hk.2 fun h hh => ho h (by simp [slsOf, hh]))
        · cases h1
      case list.nils T =>
        obtain ⟨rfl, rfl⟩ := h1
        exact (Lv.empty .nil).cons (resLs_lv h2 hob.2 hk.2 ho)
    · cases h
theorem nodup_flat {α : Type} {f : Nat → List α} : ∀ {l : List Nat}, l.Nodup → (∀ i ∈ l, (f i).Nodup) → (∀ i ∈ l, ∀ j ∈ l, i ≠ j → ∀ b ∈ f i, b ∉ f j) → (l.map f).flatten.Nodup
  | [], _, _, _ => by simp
  | x :: l, h, h1, h2 => by
    simp only [List.map_cons, List.flatten_cons]
    rw [List.nodup_cons] at h
    refine List.nodup_append.2 ⟨h1 x (by simp), nodup_flat h.2 (fun i hi => h1 i (by simp [hi])) (fun i hi j hj => h2 i (by simp [hi]) j (by simp [hj])), ?_⟩
    intro b hb c hc e
    subst e
    simp only [List.mem_flatten, List.mem_map] at hc
    obtain ⟨_, ⟨j, hj, rfl⟩, hc⟩ := hc
    exact h2 x (by simp) j (by simp [hj]) (fun e => h.1 (e ▸ hj)) b hb hc
theorem dps_nodup (hp : Holds B X F A β ϕ w) {hs : List Nat} (h1 : ∀ h ∈ hs, dpB A h = true) (h2 : hs.Nodup) : (hs.map ϕ).flatten.Nodup := by
  refine nodup_flat h2 (fun i hi => ?_) (fun i hi j hj hne b hb => ?_)
  · obtain ⟨T, es, p, e⟩ := dpB_iff.1 (h1 i hi)
    exact hp.nd _ _ e
  · obtain ⟨T, es, p, e⟩ := dpB_iff.1 (h1 i hi)
    obtain ⟨T', es', p', e'⟩ := dpB_iff.1 (h1 j hj)
    exact hp.dj i j _ _ e e' hne (by simp [roots]) (by simp) b (by simpa [owned] using hb)
structure Taken (B : Nat) (X F : List Nat) (A A' : Hp) (β : Nat → GV) (ϕ' : Nat → List Nat) (w : World) (n : Nat) (o' : Own) (hs : List Nat) : Prop where
  hp : Holds B X F A' β ϕ' w
  hb : Bd n β A'
  lk : ∀ j hl, lk A' j = some hl → hl ≠ .dead → ∃ hl0, Go.Proofs.YtkofjkjcbljkdaaGreatDoor.lk A j = some hl0 ∧ Alike hl hl0
  inb : ∀ b ∈ (hs.map ϕ').flatten, b < w.heap.size
  how : (o' = .dp ∧ (∀ h ∈ hs, ∀ o T es p, Go.Proofs.YtkofjkjcbljkdaaGreatDoor.lk A h = some (.arr o T es p) → OwnD w (β h).v T es (ϕ' h)) ∧ (hs.map ϕ').flatten.Nodup ∧ Apart A' ϕ' (hs.map ϕ').flatten ∧ (∀ b ∈ (hs.map ϕ').flatten, (b ∈ X ∨ B ≤ b) ∧ (b ∈ F ∨ B ≤ b))) ∨
    (o' = .sh ∧ (∀ h ∈ hs, ∀ o T es p, Go.Proofs.YtkofjkjcbljkdaaGreatDoor.lk A h = some (.arr o T es p) → Lv w [.list T] [.list es] [(β h).v] (ϕ' h)) ∧ (∀ i hl, Go.Proofs.YtkofjkjcbljkdaaGreatDoor.lk A' i = some hl → ∀ b ∈ owned (ϕ' i) hl, b ∉ (hs.map ϕ').flatten) ∧ (∀ b ∈ (hs.map ϕ').flatten, b ∈ F ∨ B ≤ b))
theorem shOk_iff {hs : List Nat} : shOk A hs → ∀ h ∈ hs, ∃ T es p, lk A h = some (.arr .dp T es p) ∨ lk A h = some (.arr (.vw []) T es p) := by
  induction hs with
  | nil => intro _ h hh; cases hh
  | cons x r ih =>
    intro h y hy
    obtain ⟨h1, h2⟩ := h
    rcases List.mem_cons.1 hy with rfl | hy
    · split at h1
      · rename_i T es p e; exact ⟨_, _, _, .inl e⟩
      · rename_i T es p e; exact ⟨_, _, _, .inr e⟩
      · exact h1.elim
    · exact ih h2 y hy
theorem takeIn_sound {n : Nat} {o : Own} {hs : List Nat} (hp : Holds B X F A β ϕ w) (hb : Bd n β A) (ho : o = .dp ∨ o = .sh) (hok : takeOk o A hs) : ∃ ϕ', Taken B X F A (takeIn o A hs).2 β ϕ' w n (takeIn o A hs).1 hs := by
  cases hs with
  | nil =>
    simp only [takeIn, isNil, if_true]
    refine ⟨ϕ, hp, hb, fun j hl hj _ => ⟨hl, hj, .refl _⟩, by simp, ?_⟩
    rcases ho with rfl | rfl
    · exact .inl ⟨rfl, by simp, by simp, fun _ _ _ _ _ _ => by simp, by simp⟩
    · exact .inr ⟨rfl, by simp, by simp, by simp⟩
  | cons x r =>
    obtain ⟨ϕ1, a1, a2, a3, _⟩ := proms_sound (x :: r) hp hb
    have share : shOk (proms A (x :: r)) (x :: r) → ∃ ϕ', Taken B X F A (still (x :: r) (proms A (x :: r))) β ϕ' w n .sh (x :: r) := by
      intro hsh
      have hst := a1.stilled (x :: r)
      have hin : ∀ h ∈ x :: r, ∃ T es p, lk (still (x :: r) (proms A (x :: r))) h = some (.arr (.vw []) T es p) ∧ ∃ o p', lk (proms A (x :: r)) h = some (.arr o T es p') := by
        intro h hh
        have hm : memB (x :: r) h = true := memB_iff.2 hh
        obtain ⟨T, es, p, e | e⟩ := shOk_iff hsh h hh
        · exact ⟨T, es, .no, by rw [lk_still, e]; simp [hm, stillH, unpath], _, _, e⟩
        · cases p with
          | no => exact ⟨T, es, .no, by rw [lk_still, e]; simp [hm, stillH, unpath], _, _, e⟩
          | el r' i j =>
            by_cases h2 : memB (x :: r) r' = true
            · exact ⟨T, es, .no, by rw [lk_still, e]; simp [hm, stillH, unpath, h2], _, _, e⟩
            · exact ⟨T, es, _, by rw [lk_still, e]; simp only [Option.map_some, hm, if_true, stillH, unpath, h2]; rfl, _, _, e⟩
          | sub r' i =>
            by_cases h2 : memB (x :: r) r' = true
            · exact ⟨T, es, .no, by rw [lk_still, e]; simp [hm, stillH, unpath, h2], _, _, e⟩
            · exact ⟨T, es, _, by rw [lk_still, e]; simp only [Option.map_some, hm, if_true, stillH, unpath, h2]; rfl, _, _, e⟩
      refine ⟨ϕ1, hst, still_bd a2 _, ?_, ?_, .inr ⟨rfl, ?_, ?_, ?_⟩⟩
      · intro j hl hj hd
        obtain ⟨hl0, e1, rfl⟩ := still_lk hj
        have h0 : Alike (unpath (x :: r) (if memB (x :: r) j then stillH hl0 else hl0)) hl0 := by
          refine (unpath_alike _ _).2.2.2.2.2.2.trans ?_
          split
          · exact (stillH_alike _).2.2.2.2.2.2
          · exact .refl _
        have hd0 : hl0 ≠ .dead := by
          intro e; subst e
          apply hd
          split <;> rfl
        obtain ⟨hl1, e2, e3⟩ := a3 j hl0 e1 hd0
        exact ⟨hl1, e2, h0.trans e3⟩
      · intro b hb'
        simp only [List.mem_flatten, List.mem_map] at hb'
        obtain ⟨_, ⟨h, hh, rfl⟩, hm⟩ := hb'
        obtain ⟨T', es', p', e1, _⟩ := hin h hh
        exact hst.inb e1 (by simp) b hm
      · intro h hh o T es p hA
        obtain ⟨T', es', p', e1, o2, p2, e2⟩ := hin h hh
        obtain ⟨hl1, e3, e4⟩ := a3 h _ e2 (by simp)
        rw [hA] at e3; cases e3
        obtain ⟨rfl, rfl, _⟩ := e4
        exact hst.sat _ _ e1
      · intro i hl hi b hb' hm
        simp only [List.mem_flatten, List.mem_map] at hm
        obtain ⟨_, ⟨h, hh, rfl⟩, hm⟩ := hm
        obtain ⟨T', es', p', e1, _⟩ := hin h hh
        by_cases hih : i = h
        · subst hih; rw [e1] at hi; cases hi; simp [owned] at hb'
        · exact hst.dj i h _ _ hi e1 hih (by simp [roots]) (by simp) b hb' hm
      · intro b hb'
        simp only [List.mem_flatten, List.mem_map] at hb'
        obtain ⟨_, ⟨h, hh, rfl⟩, hm⟩ := hb'
        obtain ⟨T', es', p', e1, _⟩ := hin h hh
        exact hst.all _ _ e1 trivial b hm
    rcases ho with rfl | rfl
    · simp only [takeIn, takeOk, isNil, Bool.false_eq_true, if_false] at hok ⊢
      by_cases hc : (dpAll (proms A (x :: r)) (x :: r) && ndB (x :: r)) = true
      · rw [if_pos hc]
        simp only [Bool.and_eq_true] at hc
        have hdp := dpAll_iff.1 hc.1
        have hnd := ndB_iff.1 hc.2
        have hin : ∀ h ∈ x :: r, ∃ T es p, lk (proms A (x :: r)) h = some (.arr .dp T es p) := fun h hh => dpB_iff.1 (hdp h hh)
        refine ⟨ϕ1, a1.struck _, strike_bd a2 _, ?_, ?_, .inl ⟨rfl, ?_, dps_nodup a1 hdp hnd, ?_, ?_⟩⟩
        · intro j hl hj hd; exact a3 j hl (strike_lk hj hd).1 hd
        · intro b hb'
          simp only [List.mem_flatten, List.mem_map] at hb'
          obtain ⟨_, ⟨h, hh, rfl⟩, hm⟩ := hb'
          obtain ⟨T', es', p', e1⟩ := hin h hh
          exact a1.inb e1 (by simp) b hm
        · intro h hh o T es p hA
          obtain ⟨T', es', p', e1⟩ := hin h hh
          obtain ⟨hl1, e3, e4⟩ := a3 h _ e1 (by simp)
          rw [hA] at e3; cases e3
          obtain ⟨rfl, rfl, _⟩ := e4
          exact a1.sat _ _ e1
        · refine strike_apart a1 fun b hb' => ?_
          simp only [List.mem_flatten, List.mem_map] at hb'
          obtain ⟨_, ⟨h, hh, rfl⟩, hm⟩ := hb'
          obtain ⟨T', es', p', e1⟩ := hin h hh
          exact ⟨h, hh, _, e1, hm⟩
        · intro b hb'
          simp only [List.mem_flatten, List.mem_map] at hb'
          obtain ⟨_, ⟨h, hh, rfl⟩, hm⟩ := hb'
          obtain ⟨T', es', p', e1⟩ := hin h hh
          exact ⟨a1.own _ _ e1 b hm, a1.all _ _ e1 trivial b hm⟩
      · rw [if_neg hc] at hok ⊢
        exact share hok
    · simp only [takeIn, takeOk, isNil, Bool.false_eq_true, if_false] at hok ⊢
      exact share hok
theorem loD_lo {Ts : List PTy} {ps : List PV} {vs : List Value} {fs : List (List Nat)} (h : LoD w Ts ps vs fs) (hT : leafDs Ts = true) : LoP (OwnF w) Ts ps vs fs := by
  induction h with
  | nil => exact .nil
  | int h1 _ ih => simp only [leafDs, Bool.and_eq_true] at hT; exact .int h1 (ih hT.2)
  | bool _ ih => simp only [leafDs, Bool.and_eq_true] at hT; exact .bool (ih hT.2)
  | str h1 _ ih => simp only [leafDs, Bool.and_eq_true] at hT; exact .str h1 (ih hT.2)
  | list h1 _ ih =>
    simp only [leafDs, Bool.and_eq_true] at hT
    exact .list (ownD_F hT.1 h1) (ih hT.2)
theorem leafDs_iff {ts : List PTy} : leafDs ts = true ↔ ∀ t ∈ ts, leafD t = true := by
  induction ts with
  | nil => simp [leafDs]
  | cons t ts ih => simp [leafDs, ih]
end
end Go.Proofs.YtkofjkjcbljkdaaGreatDoor
end

section
namespace Go.Proofs.YtkofjkjcbljkdaaGreatDoor
variable [LaidG]
set_option linter.unusedVariables false
section
variable {P : Program} {E : Env} {N : Nat} {w0 : World} {X F : List Nat} {S : St} {β : Nat → GV} {ϕ : Nat → List Nat} {a : Act} {w w' : World} {o : Oper} {R : RR} {A A' : Hp} {B : Nat}
theorem run_storeCells_gen (b t : Nat) (fr : Nat × Nat) : ∀ (vs : List Value) (off i : Nat) (c : Array Value) (w : World), w.heap[b]? = some (.cells c t fr) → off + i + vs.length ≤ c.size →
    (∀ j, j < c.size → ¬ (fr.1 ≤ j ∧ j < fr.2)) → (∀ v ∈ vs, v.oneCell' = true) →
    ∃ w', (storeCells ⟨b, off, none⟩ vs i).run P w = .ok () w' ∧ w'.heap[b]? = some (.cells (c.toList.take (off + i) ++ vs ++ c.toList.drop (off + i + vs.length)).toArray t fr) ∧
      (∀ k, k ≠ b → w'.heap[k]? = w.heap[k]?) ∧ w'.os = w.os ∧ w'.tape = w.tape ∧ w'.output = w.output ∧ w'.heap.size = w.heap.size
  | [], off, i, c, w, h, hl, hf, h1 => by
    refine ⟨w, rfl, ?_, fun _ _ => rfl, rfl, rfl, rfl, rfl⟩
    rw [h]; simp
  | v :: vs, off, i, c, w, h, hl, hf, h1 => by
    simp only [List.length_cons] at hl
    have hlt : off + i < c.size := by omega
    have hcell : w.cell? ⟨b, off + i, none⟩ = some c[off + i] := by rw [cell_of_row w b _ c t fr h]; simp [hlt]
    have hfz : w.frozen? ⟨b, off + i, none⟩ = false := by
      have := hf (off + i) hlt
      simp only [World.frozen?, h]
      simp only [Bool.and_eq_false_iff, decide_eq_false_iff_not]
      omega
    have hrun : (store ((⟨b, off, none⟩ : Addr).add i) v).run P w = .ok () (w.setCell ⟨b, off + i, none⟩ v) := by
      rw [addr_add, run_store P w _ v _ (h1 v (by simp)), hcell, hfz]; simp
    have hheap : (w.setCell ⟨b, off + i, none⟩ v).heap[b]? = some (.cells (c.setIfInBounds (off + i) v) t fr) := by
      simp [World.setCell, Array.getElem?_modify, h]
    have hoth : ∀ k, k ≠ b → (w.setCell ⟨b, off + i, none⟩ v).heap[k]? = w.heap[k]? := by
      intro k hk; simp [World.setCell, Array.getElem?_modify, Ne.symm hk]
    obtain ⟨w', r1, r2, r3, r4, r5, r6, r7⟩ := run_storeCells_gen b t fr vs off (i + 1) (c.setIfInBounds (off + i) v) _ hheap (by simp; omega) (by simpa using hf) (fun u hu => h1 u (by simp [hu]))
    refine ⟨w', ?_, ?_, fun k hk => (r3 k hk).trans (hoth k hk), r4, r5, r6, ?_⟩
    · simp only [storeCells, Sem.run_bind, hrun, Result.andThen_ok, r1]
    · rw [r2]
      congr 3
      have e1 : (c.setIfInBounds (off + i) v).toList = c.toList.set (off + i) v := by simp
      rw [e1]
      have e2 : (c.toList.set (off + i) v).take (off + (i + 1)) = c.toList.take (off + i) ++ [v] := by
        rw [show off + (i + 1) = (off + i) + 1 by omega, List.take_succ_eq_append_getElem (by simpa using hlt)]
        simp [List.take_set_of_le]
      have e3 : (c.toList.set (off + i) v).drop (off + (i + 1) + vs.length) = c.toList.drop (off + i + (v :: vs).length) := by
        rw [List.drop_set_of_lt (by omega)]
        congr 1; simp; omega
      rw [e2, e3]; simp
    · rw [r7]; simp [World.setCell]
theorem storeEl_flat {T : PTy} {es : List PV} {i off : Nat} {ps : List PV} (hS : ∀ e ∈ es, Shp T e) (hi : i < es.length) (hle : off + ps.length ≤ T.wd) (hps : ∀ p ∈ ps, ∀ qs, p ≠ .agg qs) (hpos : 0 < ps.length) :
    flatP (storeEl T es i off ps) = (flatP (es.take i) ++ (es.getD i PV.d).leaves.take off) ++ (ps ++ ((es.getD i PV.d).leaves.drop (off + ps.length) ++ flatP (es.drop (i + 1)))) ∧
    (∀ e ∈ storeEl T es i off ps, Shp T e) ∧ (storeEl T es i off ps).length = es.length := by
  have hs := hS _ (getD_mem hi)
  have key : ∃ e', storeEl T es i off ps = es.set i e' ∧ Shp T e' ∧ e'.leaves = (es.getD i PV.d).leaves.take off ++ ps ++ (es.getD i PV.d).leaves.drop (off + ps.length) := by
    have hel := leaves_len hs
    cases T with
    | agg ts =>
      obtain ⟨qs, hq, hql⟩ := hs
      simp only [PTy.wd, PTy.leaves] at hle
      have e1 : etaL 0 (ts.take off) qs = qs.take off := by
        rw [etaL_eq (by simp; omega), List.length_take, Nat.min_eq_left (by omega), List.drop_zero]
      have e2 : etaL (off + ps.length) (ts.drop (off + ps.length)) qs = qs.drop (off + ps.length) := by
        rw [etaL_eq (by simp; omega), List.length_drop, List.take_of_length_le (by simp; omega)]
      refine ⟨.agg (qs.take off ++ ps ++ qs.drop (off + ps.length)), ?_, ⟨_, rfl, ?_⟩, ?_⟩
      · simp only [storeEl, hq, PV.A, e1, e2]
      · simp only [List.length_append, List.length_take, List.length_drop, hql]; omega
      · rw [hq]; rfl
    | _ =>
      simp only [PTy.wd, PTy.leaves, List.length_singleton] at hle
      obtain ⟨p, rfl⟩ := List.length_eq_one_iff.1 (show ps.length = 1 by omega)
      have hoff : off = 0 := by simp at hle; exact hle
      subst hoff
      have h0 := hps p (by simp)
      refine ⟨p, rfl, by simpa [Shp] using h0, ?_⟩
      have h1 : ∀ qs, es.getD i PV.d ≠ .agg qs := by simpa only [Shp] using hs
      rw [leaf_leaves h0, leaf_leaves h1]; rfl
  obtain ⟨e', he, hse, hle'⟩ := key
  have hset : es.set i e' = es.take i ++ e' :: es.drop (i + 1) := by
    rw [List.set_eq_take_append_cons_drop, if_pos hi]
  rw [he]
  refine ⟨?_, ?_, by simp⟩
  · rw [hset]
    have : flatP (es.take i ++ e' :: es.drop (i + 1)) = flatP (es.take i) ++ (e'.leaves ++ flatP (es.drop (i + 1))) := by simp [flatP]
    rw [this, hle']; simp [List.append_assoc]
  · intro e hm
    rcases List.mem_or_eq_of_mem_set hm with h | h
    · exact hS e h
    · rw [h]; exact hse
theorem flatT_split {T : PTy} {n i off sz : Nat} (hi : i < n) (hle : off + sz ≤ T.wd) : flatT T n = (flatT T i ++ T.leaves.take off) ++ (leafAt T off sz ++ (T.leaves.drop (off + sz) ++ flatT T (n - (i + 1)))) := by
  have e1 : n = i + (1 + (n - (i + 1))) := by omega
  rw [e1, flatT_add, flatT_add, flatT_one]
  have e2 : T.leaves = T.leaves.take off ++ ((T.leaves.drop off).take sz ++ T.leaves.drop (off + sz)) := by
    rw [← List.drop_drop, List.take_append_drop, List.take_append_drop]
  have e3 : i + (1 + (n - (i + 1))) - (i + 1) = n - (i + 1) := by omega
  rw [e3]
  conv => lhs; rw [e2]
  simp [leafAt, List.append_assoc]
theorem Fr.step {w0 : World} {X : List Nat} (h : Fr w0 X w) (os : w'.os = w.os) (tape : w'.tape = w.tape) (output : w'.output = w.output) (size : w.heap.size ≤ w'.heap.size) {b : Nat} (hb : b ∈ X ∨ w0.heap.size ≤ b)
    (hf : ∀ k, k < w.heap.size → k ≠ b → w'.heap[k]? = w.heap[k]?) : Fr w0 X w' :=
  ⟨os.trans h.os, tape.trans h.tape, output.trans h.output, Nat.le_trans h.size size, fun k hk hn => by
    rw [hf k (Nat.lt_of_lt_of_le hk h.size) (fun e => by subst e; rcases hb with hb | hb; exact hn hb; omega)]
    exact h.block k hk hn⟩
theorem oks_cells {x : SV} (h : SV.ok β x) : SV.oks β x.cells := by
  cases x <;> first | exact h | exact ⟨h, trivial⟩
theorem lts_cells {n : Nat} {x : SV} (h : SV.lt n x) : SV.lts n x.cells := by
  cases x <;> first | exact h | exact ⟨h, trivial⟩
theorem leafAll_iff {xs : List SV} : leafAll xs = true ↔ ∀ x ∈ xs, x.leafB = true := by
  induction xs with
  | nil => simp [leafAll]
  | cons x xs ih => simp [leafAll, ih]
theorem vals_one (pl : ∀ h, (β h).v.oneCell' = true) {xs : List SV} (h : leafAll xs = true) : ∀ v ∈ SV.vals β xs, v.oneCell' = true := by
  intro v hv
  rw [SV.vals_map, List.mem_map] at hv
  obtain ⟨x, hx, rfl⟩ := hv
  exact val_one pl x (leafAll_iff.1 h x hx)
theorem run_storeEl {t : TypeId} {x y : Operand} {ti : TI} {v : SV} {b t' at_ : Nat} {c : Array Value} {fr : Nat × Nat} (hTk : TIok P t ti) (ho : o.op = .store t x y) (x3 : a.eval x = .pointer (some ⟨b, at_, none⟩)) (y3 : a.eval y = SV.val β v) (pl : ∀ h, (β h).v.oneCell' = true)
    (hcl : v.cells.length = ti.sz) (hlf : leafAll v.cells = true) (hblk : w.heap[b]? = some (.cells c t' fr)) (hfit : at_ + ti.sz ≤ c.size) (hfz : ∀ i, i < c.size → ¬ (fr.1 ≤ i ∧ i < fr.2)) :
    ∃ w', (execOp a.eval o).run P w = .ok .skip w' ∧ w'.heap[b]? = some (.cells (c.toList.take at_ ++ SV.vals β v.cells ++ c.toList.drop (at_ + ti.sz)).toArray t' fr) ∧
      (∀ k, k ≠ b → w'.heap[k]? = w.heap[k]?) ∧ w'.os = w.os ∧ w'.tape = w.tape ∧ w'.output = w.output ∧ w'.heap.size = w.heap.size := by
  have hvl : (SV.vals β v.cells).length = ti.sz := by simp [SV.vals_map, hcl]
  obtain ⟨w', r1, r2, r3, r4, r5, r6, r7⟩ := run_storeCells_gen (P := P) b t' fr (SV.vals β v.cells) at_ 0 c w hblk (by omega) hfz (vals_one pl hlf)
  refine ⟨w', ?_, ?_, r3, r4, r5, r6, r7⟩
  · have hsz := run_size hTk w
    have hcl2 := val_cells pl v
    simp only [execOp, ho, Instr.storeAt, Instr.sureAddr, storeVar, Sem.run_bind, Sem.run_pure, Result.andThen_ok, x3, y3, hcl2, hsz]
    simp [hvl, r1]
  · rw [r2, hvl]; rfl
theorem Fr.store {b : Nat} (h : Fr w0 X w) (os : w'.os = w.os) (tape : w'.tape = w.tape) (output : w'.output = w.output) (size : w'.heap.size = w.heap.size) (hb : b ∈ X ∨ w0.heap.size ≤ b) (hf : ∀ k, k ≠ b → w'.heap[k]? = w.heap[k]?) : Fr w0 X w' :=
  h.step os tape output (Nat.le_of_eq size.symm) hb fun k _ hk => hf k hk
theorem box_mid (l m r vs : List Value) {off : Nat} (h : off + vs.length ≤ m.length) : (l ++ m ++ r).take (l.length + off) ++ vs ++ (l ++ m ++ r).drop (l.length + off + vs.length) = l ++ (m.take off ++ vs ++ m.drop (off + vs.length)) ++ r := by
  have e1 : (l ++ m ++ r).take (l.length + off) = l ++ m.take off := by
    rw [List.append_assoc, List.take_append, List.take_of_length_le (by omega), Nat.add_sub_cancel_left, List.take_append_of_le_length (by omega)]
  have e2 : (l ++ m ++ r).drop (l.length + off + vs.length) = m.drop (off + vs.length) ++ r := by
    rw [List.append_assoc, Nat.add_assoc, ← List.drop_drop, List.drop_left, List.drop_append_of_le_length (by omega)]
  rw [e1, e2]; simp [List.append_assoc]
theorem Holds.setBox (h : Holds B X F A β ϕ w) {n i t : Nat} {cs cs' : List SV} (hb : Bd n β A) (hi : lk A i = some (.box true t cs)) (hcs : SV.lts n cs' ∧ SV.oks β cs')
    (hw : HLSat w' (β i) β (ϕ i) (.box true t cs')) (hf : ∀ k, k ∉ ϕ i → w'.heap[k]? = w.heap[k]?) : Holds B X F (set1 A i (.box true t cs')) β ϕ w' ∧ Bd n β (set1 A i (.box true t cs')) := by
  have h1 := h.redo (A' := set1 (strike [i] A) i (.box true t cs')) (f := ϕ i) (hl0 := .box true t cs') (fun j => lk_set1' _ _ _) hi hw (fun b hb' => .inl (by simpa [owned] using hb')) (fun k _ hk => hf k (by simpa [owned] using hk)) trivial (by simp) (by simp [roots]) (by simp) (fun _ => trivial) (fun o t cs _ => ⟨_, _, _, rfl⟩)
  have hid : upd ϕ i (ϕ i) = ϕ := by funext k; unfold upd; split <;> simp_all
  rw [hid] at h1
  have hlk : ∀ j, lk (set1 (strike [i] A) i (.box true t cs')) j = lk (set1 A i (.box true t cs')) j := by
    intro j
    rw [lk_set1', lk_set1']
    split
    · rfl
    · rename_i hne
      cases hj : lk A j with
      | none => rw [lk_strike, hj]; rfl
      | some hl =>
        refine strike_live hj (by simpa using hne) fun r hr hm => ?_
        simp only [List.mem_singleton] at hm
        subst hm
        exact h.rt j hl hj _ hr _ _ _ hi
  refine ⟨⟨h1.pl, ?_, ?_, ?_, ?_, ?_, ?_, ?_⟩, bd_put hb (fun j => lk_set1' _ _ _) (hb _ _ hi).1 hcs⟩
  · intro j hl hj; exact h1.sat j hl (by rw [hlk]; exact hj)
  · intro j hl hj; exact h1.own j hl (by rw [hlk]; exact hj)
  · intro j hl hj; exact h1.all j hl (by rw [hlk]; exact hj)
  · intro j hl hj; exact h1.nd j hl (by rw [hlk]; exact hj)
  · intro j k hl hl' hj hk; exact h1.dj j k hl hl' (by rw [hlk]; exact hj) (by rw [hlk]; exact hk)
  · intro j hl hj
    have := h1.pt j hl (by rw [hlk]; exact hj)
    cases hl with
    | arr o T es p =>
      cases o <;> (try trivial)
      exact PthOk.congr this fun r _ => ⟨(hlk r).symm, rfl⟩
    | _ => trivial
  · intro j hl hj r hr o t cs hc; exact h1.rt j hl (by rw [hlk]; exact hj) r hr o t cs (by rw [hlk]; exact hc)
theorem s_store {t : TypeId} {x y : Operand} (hT : EnvTy P E) (ho : o.op = .store t x y) (hR : opRes0 E S true o = some R) (sat : Sat N w0 X F S β ϕ a w) (hob : R.ob) : Snd P w0 X F S β ϕ o a w R := by
  unfold opRes0 at hR
  rw [ho] at hR
  simp only at hR
  split at hR
  · rename_i g' h off g'' v ti hx hy hti
    split at hR
    · rename_i bt cs hl
      split at hR
      · rename_i hlen
        cases hR
        obtain ⟨_, q2, q3, q4, q5, hd⟩ := hob
        obtain ⟨x1, x2⟩ := ev_sound hx sat
        replace x1 := x1 q2
        obtain ⟨x3, b, oo, hb⟩ := x2 q2
        obtain ⟨y1, y2⟩ := ev_sound hy sat
        replace y1 := y1 q3
        obtain ⟨y3, y4⟩ := y2 q3
        obtain ⟨b', bt', hb', hϕ, hold⟩ := sat.hp.sat _ _ hl
        rw [hb] at hb'
        simp only [Value.pointer.injEq, Option.some.injEq, Addr.mk.injEq, and_true] at hb'
        obtain ⟨rfl, rfl⟩ := hb'
        simp only [SV.val, hb] at x3
        obtain ⟨hlt, hlo⟩ := sat.hb _ _ hl
        obtain ⟨β', ϕ', a1, a2, a3, a4, a5, a6, a7, a8, a9, a10⟩ := fixL_sound ti.leaves v.cells S.n S.A β ϕ sat.hp sat.hb (lts_cells y1) (oks_cells y4)
        have hTk := hT _ _ hti
        have hcs : (SV.vals β cs).length = cs.length := by simp [SV.vals_map]
        have hvl : (SV.vals β v.cells).length = ti.sz := by simp [SV.vals_map, q4]
        obtain ⟨w', r1, r2, r3, r4, r5, r6, r7⟩ := run_storeEl (P := P) hTk ho x3 y3 sat.hp.pl q4 q5 hold (by simp [hcs]; omega) (by simp)
        have hl1 : lk ((fixL S.n ti.leaves v.cells).2.1 ++ S.A) h = some (.box true bt cs) := by rw [a10 h hlt]; exact hl
        have hcs' : SV.vals β' cs = SV.vals β cs := SV.vals_congr a3 cs hlo.1
        have hnew : SV.vals β' (cs.take off ++ (fixL S.n ti.leaves v.cells).1 ++ cs.drop (off + ti.sz)) = (SV.vals β cs).take off ++ SV.vals β v.cells ++ (SV.vals β cs).drop (off + ti.sz) := by
          rw [← hcs', ← a5]; simp [SV.vals_map, List.map_take, List.map_drop]
        have hb1 : b ∈ X ∨ w0.heap.size ≤ b := sat.hp.own _ _ hl b (by simp [owned, hϕ])
        have hlts : SV.lts (fixL S.n ti.leaves v.cells).2.2 (cs.take off ++ (fixL S.n ti.leaves v.cells).1 ++ cs.drop (off + ti.sz)) := by
          rw [SV.lts_iff]
          have c1 := SV.lts_iff.1 (SV.lts_mono a8 cs hlo.1)
          have c2 := SV.lts_iff.1 a6
          intro z hz
          simp only [List.mem_append] at hz
          rcases hz with (hz | hz) | hz
          · exact c1 z (List.mem_of_mem_take hz)
          · exact c2 z hz
          · exact c1 z (List.mem_of_mem_drop hz)
        have hoks : SV.oks β' (cs.take off ++ (fixL S.n ti.leaves v.cells).1 ++ cs.drop (off + ti.sz)) := by
          rw [SV.oks_iff]
          have c1 := SV.oks_iff.1 (SV.oks_congr a3 cs hlo.1 hlo.2)
          have c2 := SV.oks_iff.1 a7
          intro z hz
          simp only [List.mem_append] at hz
          rcases hz with (hz | hz) | hz
          · exact c1 z (List.mem_of_mem_take hz)
          · exact c2 z hz
          · exact c1 z (List.mem_of_mem_drop hz)
        obtain ⟨h2, h3⟩ := a1.setBox (w' := w') a2 hl1 ⟨hlts, hoks⟩ (by
          rw [a3 h hlt, a4 h hlt]
          refine ⟨b, bt', hb, hϕ, ?_⟩
          rw [r2, hnew, ← hvl, List.toList_toArray, box_mid _ _ _ _ (by rw [hcs, hvl]; exact hlen)]) (fun k hk => r3 k (by rw [a4 h hlt, hϕ] at hk; simpa using hk))
        exact ⟨trivial, undef, w', β', ϕ', .inr ⟨r1, rfl⟩, ⟨fun hh => absurd hd hh, a3, h2, h3, trivial, trivial, a8, sat.fr.store r4 r5 r6 r7 hb1 r3⟩, fun h => by simp [stillP, convP, ho] at h, fun h => by simp [growP, ho] at h⟩
      · cases hR
    · cases hR
  · rename_i g' h i wd off g'' v ti hx hy hti
    have hTk := hT _ _ hti
    split at hR
    · rename_i ow T es p hl
      split at hR
      · rename_i hlen
        split at hR
        · rename_i obr ps hres
          cases hR
          obtain ⟨_, q2, q3, q4, q5, q6, q7, q8, q9, q10, q11, hd, q12, q13, q14⟩ := hob
          subst q5
          obtain ⟨x1, x2⟩ := ev_sound hx sat
          replace x1 := x1 q2
          obtain ⟨x3, bx, ox, hbx⟩ := x2 q2
          rw [val_elp hbx] at x3
          obtain ⟨y1, y2⟩ := ev_sound hy sat
          replace y1 := y1 q3
          obtain ⟨y3, y4⟩ := y2 q3
          have hoks := oks_cells y4
          have how : ow = .dp ∨ ow = .sh := by cases ow <;> simp [ownO] at q8 <;> simp
          obtain ⟨ϕ1, tk⟩ := takeIn_sound sat.hp sat.hb how q12
          generalize hA1 : (takeIn ow S.A (slsOf v.cells)).2 = A1 at *
          generalize ho1 : (takeIn ow S.A (slsOf v.cells)).1 = o1 at *
          have hl1 : ∃ p1, lk A1 h = some (.arr ow T es p1) := by
            cases hk : lk A1 h with
            | none => rw [hk] at q14; cases ow <;> simp [sameO] at q14
            | some hl1 =>
              rw [hk] at q14
              have hal : hl1 ≠ .dead → Alike hl1 (.arr ow T es p) := fun hne => by
                obtain ⟨hl0, e1, e2⟩ := tk.lk h hl1 hk hne
                rw [hl] at e1; cases e1; exact e2
              cases ow <;> cases hl1 <;> simp only [sameO] at q14
              all_goals (rename_i oo TT ee pp; cases oo <;> simp only [sameO] at q14; obtain ⟨rfl, rfl, _⟩ := hal (by simp); exact ⟨_, rfl⟩)
          obtain ⟨p1, hl1⟩ := hl1
          have hcl : v.cells.length = ti.sz := by
            have h1 : ∀ {ts : List PTy} {xs : List SV} {ob : Prop} {ps : List PV}, resLs S.A ts xs = some (ob, ps) → xs.length = ts.length := by
              intro ts
              induction ts with
              | nil => intro xs ob ps h; cases xs <;> simp [resLs] at h ⊢
              | cons t ts ih =>
                intro xs ob ps h
                cases xs with
                | nil => simp [resLs] at h
                | cons x xs =>
                  simp only [resLs] at h
                  split at h
                  · rename_i h2; simp [ih h2]
                  · cases h
            exact h1 hres
          have hvl : (SV.vals β v.cells).length = ti.sz := by simp [SV.vals_map, hcl]
          have hdata : leafDs ti.leaves = true := by
            rw [leafDs_iff]; intro t' ht'
            rw [← q6] at ht'
            exact leafDs_iff.1 q9 t' (List.mem_of_mem_drop (List.mem_of_mem_take ht'))
          have core : ∀ (L : World → List PTy → List PV → List Value → List Nat → Prop), (∀ w, LOk w (L w)) → (∀ w w' Ts ps vs f, L w Ts ps vs f → (∀ b ∈ f, w'.heap[b]? = w.heap[b]?) → L w' Ts ps vs f) → OwnG (L w) w (β h).v T es (ϕ1 h) → L w ti.leaves ps (SV.vals β v.cells) (fsOf ϕ1 v.cells).flatten →
              (∀ b r, ϕ1 h = b :: r → b ∉ r ∧ b ∉ (fsOf ϕ1 v.cells).flatten) →
              ∃ w' b f', ϕ1 h = b :: f' ∧ (execOp a.eval o).run P w = .ok .skip w' ∧ (∀ k, k ≠ b → w'.heap[k]? = w.heap[k]?) ∧ w'.os = w.os ∧ w'.tape = w.tape ∧ w'.output = w.output ∧ w'.heap.size = w.heap.size ∧
                ∃ g1 g2 g3, f' = g1 ++ g2 ++ g3 ∧ OwnG (L w') w' (β h).v T (storeEl T es i off ps) (b :: (g1 ++ (fsOf ϕ1 v.cells).flatten ++ g3)) := by
            intro L hLk hLf hown hnv hbn
            rcases hown with ⟨rfl, _⟩ | ⟨b, f1, cs, hϕ, ⟨⟨o', cap, c, t', fr, hv, hblk, hcap, hle, hmx, hfz, hcs⟩, hlen1, hlim⟩, hS, hL⟩
            · simp at q7
            rw [hv] at hbx
            simp only [addrOf, Option.some.injEq, Prod.mk.injEq] at hbx
            obtain ⟨rfl, rfl⟩ := hbx
            obtain ⟨v1, v2, v3, g1, g2, g3, rfl, rfl, hl1', hl2, hL1, hL2, hL3⟩ := elem_split (hLk w) hL hS q7 hlen
            obtain ⟨hbn1, hbn2⟩ := hbn _ _ hϕ
            have hct : ∃ pre post, c.toList = pre ++ (v1 ++ v2 ++ v3) ++ post ∧ pre.length = o' := by
              have h2 := congrArg List.length hcs
              rw [List.length_take, List.length_drop] at h2
              simp only [Array.length_toList, List.length_append] at h2
              refine ⟨c.toList.take o', c.toList.drop (o' + (v1 ++ v2 ++ v3).length), ?_, ?_⟩
              · conv => lhs; rw [← List.take_append_drop o' c.toList, ← List.take_append_drop (v1 ++ v2 ++ v3).length (c.toList.drop o'), hcs, List.drop_drop]
                simp only [List.append_assoc]
              · have := hTk.pos
                rw [List.length_take, Array.length_toList]; omega
            obtain ⟨pre, post, hct, hpre⟩ := hct
            have hsz : c.size = pre.length + (v1.length + v2.length + v3.length) + post.length := by
              have := congrArg List.length hct
              simpa [List.length_append, Nat.add_assoc] using this
            obtain ⟨w', r1, r2, r3, r4, r5, r6, r7⟩ := run_storeEl (P := P) (β := β) (v := v) hTk ho x3 y3 sat.hp.pl hcl q11 hblk (by omega) hfz.1
            obtain ⟨s1, s2, s3⟩ := storeEl_flat (off := off) (ps := ps) hS q7 (by rw [← (((hLk w).lv hnv).lens).1]; exact hlen) (((hLk w).lv hnv).leaves_of) (by rw [← (((hLk w).lv hnv).lens).1]; exact hTk.pos)
            have hpl : ps.length = ti.sz := (((hLk w).lv hnv).lens).1.symm
            refine ⟨w', b, _, hϕ, r1, r3, r4, r5, r6, r7, g1, g2, g3, rfl, .inr ⟨b, _, v1 ++ SV.vals β v.cells ++ v3, rfl, ⟨⟨o', cap, _, t', fr, by rw [s3]; exact hv, r2, ?_, by rw [s3]; exact hle, hmx, ?_, ?_⟩, ?_, by rw [s3]; exact hlim⟩, s2, ?_⟩⟩
            · simp only [List.size_toArray, List.length_append, List.length_take, List.length_drop, Array.length_toList, hvl]; omega
            · refine hfz.cast ?_
              simp only [List.size_toArray, List.length_append, List.length_take, List.length_drop, Array.length_toList, hvl]; omega
            · rw [List.toList_toArray, hct]
              have e0 : o' + i * T.wd + off = pre.length + v1.length := by omega
              have e1 : (pre ++ (v1 ++ v2 ++ v3) ++ post).take (o' + i * T.wd + off) = pre ++ v1 := by
                rw [e0, ← List.length_append]
                have : pre ++ (v1 ++ v2 ++ v3) ++ post = (pre ++ v1) ++ (v2 ++ v3 ++ post) := by simp
                rw [this, List.take_left]
              have e2 : (pre ++ (v1 ++ v2 ++ v3) ++ post).drop (o' + i * T.wd + off + ti.sz) = v3 ++ post := by
                rw [e0, ← hl2]
                have : pre ++ (v1 ++ v2 ++ v3) ++ post = (pre ++ v1 ++ v2) ++ (v3 ++ post) := by simp
                rw [this, show pre.length + v1.length + v2.length = (pre ++ v1 ++ v2).length by simp [Nat.add_assoc], List.drop_left]
              rw [e1, e2]
              have e3 : pre ++ v1 ++ SV.vals β v.cells ++ (v3 ++ post) = pre ++ ((v1 ++ SV.vals β v.cells ++ v3) ++ post) := by simp
              rw [e3, ← hpre, List.drop_left, List.take_left]
            · rw [s3, ← hlen1]; simp only [List.length_append, hvl, hl2]
            · have hfr : ∀ {Ts ps vs f}, L w Ts ps vs f → (∀ x ∈ f, x ≠ b) → L w' Ts ps vs f := fun hh hx => hLf w w' _ _ _ _ hh fun x hxm => r3 x (hx x hxm)
              have h4 := (hLk w').app (hfr hL1 (fun x hx e => hbn1 (by subst e; simp [hx]))) ((hLk w').app (hfr hnv (fun x hx e => hbn2 (by subst e; exact hx))) (hfr hL3 (fun x hx e => hbn1 (by subst e; simp [hx]))))
              rw [s3, s1, hpl, flatT_split q7 hlen, q6]
              simpa [List.append_assoc] using h4
          have hst := tk.hp.struck [h]
          have hbst := strike_bd tk.hb [h]
          have finish : ∀ (ob : Prop) (w' : World) (b : Nat) (g1 g2 g3 : List Nat), ϕ1 h = b :: (g1 ++ g2 ++ g3) → (execOp a.eval o).run P w = .ok .skip w' → (∀ k, k ≠ b → w'.heap[k]? = w.heap[k]?) → w'.os = w.os → w'.tape = w.tape → w'.output = w.output → w'.heap.size = w.heap.size →
              (∀ k, o1 ≠ .cs k) → (∀ rs, o1 ≠ .vw rs) → HLSat w' (β h) β (b :: (g1 ++ (fsOf ϕ1 v.cells).flatten ++ g3)) (.arr o1 T (storeEl T es i off ps) .no) → b ∈ owned (ϕ1 h) (.arr ow T es p1) → ndOk (b :: (g1 ++ (fsOf ϕ1 v.cells).flatten ++ g3)) (.arr o1 T (storeEl T es i off ps) .no) →
              Apart (strike [h] A1) ϕ1 (owned (b :: (g1 ++ (fsOf ϕ1 v.cells).flatten ++ g3)) (.arr o1 T (storeEl T es i off ps) .no)) → (∀ i' hl', lk (strike [h] A1) i' = some hl' → ∀ bb ∈ owned (ϕ1 i') hl', bb ∉ (fsOf ϕ1 v.cells).flatten) →
              (∀ bb ∈ owned (b :: (g1 ++ (fsOf ϕ1 v.cells).flatten ++ g3)) (.arr o1 T (storeEl T es i off ps) .no), bb ∈ X ∨ w0.heap.size ≤ bb) → (∀ bb ∈ (fsOf ϕ1 v.cells).flatten, bb ∈ F ∨ w0.heap.size ≤ bb) →
              Snd P w0 X F S β ϕ o a w ⟨True, ob, .nilp, set1 (strike [h] A1) h (.arr o1 T (storeEl T es i off ps) .no), S.n⟩ := by
            intro ob w' b g1 g2 g3 hϕ r1 r3 r4 r5 r6 r7 ho1 ho2 hsat hbo hnd hap hdj hX hF
            have hbap : Apart (strike [h] A1) ϕ1 [b] := strike_apart tk.hp fun bb hbb => by
              simp only [List.mem_singleton] at hbb; subst hbb
              exact ⟨h, by simp, _, hl1, hbo⟩
            have hw : Holds w0.heap.size X F (strike [h] A1) β ϕ1 w' := hst.world fun i' hl' hi' hd' bb hbb => r3 bb fun e => hbap i' hl' hi' hd' bb hbb (by simp [e])
            have hmem : ∀ bb ∈ b :: (g1 ++ (fsOf ϕ1 v.cells).flatten ++ g3), bb ∈ ϕ1 h ∨ bb ∈ (fsOf ϕ1 v.cells).flatten := by
              intro bb hbb
              rw [hϕ]
              simp only [List.mem_cons, List.mem_append] at hbb ⊢
              rcases hbb with hbb | (hbb | hbb) | hbb
              · exact .inl (.inl hbb)
              · exact .inl (.inr (.inl (.inl hbb)))
              · exact .inr hbb
              · exact .inl (.inr (.inr hbb))
            have hput := hw.put (A' := set1 (strike [h] A1) h (.arr o1 T (storeEl T es i off ps) .no)) (n := h) (fun j => lk_set1' _ _ _) (fun hl' hi => strike_dead (by simp) hi) hsat hX
              (fun _ bb hbb => by
                rcases hmem bb hbb with h1 | h1
                · exact tk.hp.all _ _ hl1 trivial bb h1
                · exact hF bb h1) hnd hap
              (fun i' hl' hi' _ bb hbb hm => by
                by_cases hd' : hl' = .dead
                · subst hd'; simp [owned] at hbb
                · obtain ⟨e1, e2, e3⟩ := strike_lk hi' hd'
                  rcases hmem bb hm with h1 | h1
                  · refine tk.hp.dj i' h hl' _ e1 hl1 (by simpa using e2) ?_ (by simp) bb hbb h1
                    rcases how with rfl | rfl <;> simp [roots]
                  · exact hdj i' hl' hi' bb hbb h1)
              (by cases o1 <;> first | trivial | exact absurd rfl (ho2 _)) (fun _ _ _ e => by cases e)
              (by cases o1 <;> first | exact absurd rfl (ho2 _) | simp [roots])
            refine ⟨trivial, undef, w', β, _, .inr ⟨r1, rfl⟩, ⟨fun hh => absurd hd hh, fun _ _ => rfl, hput, bd_put hbst (fun j => lk_set1' _ _ _) (sat.hb _ _ hl).1 (by cases o1 <;> first | trivial | exact absurd rfl (ho2 _)), trivial, trivial, Nat.le_refl _, sat.fr.store r4 r5 r6 r7 (tk.hp.own _ _ hl1 b hbo) r3⟩, fun h => by simp [stillP, convP, ho] at h, fun h => by simp [growP, ho] at h⟩
          have hndh := tk.hp.nd _ _ hl1
          rcases tk.how with ⟨e1, e2, e3, e4, e5⟩ | ⟨e1, e2, e3, e4⟩
          · -- all owned
            have how2 : ow = .dp := by
              rcases how with h1 | h1
              · exact h1
              · subst h1
                rw [← ho1] at e1
                simp only [takeIn] at e1
                split at e1 <;> cases e1
            subst how2
            subst e1
            rw [← fsOf_flat] at e3 e4 e5
            have hLD := resLs_own hres q4 hoks (ϕ' := ϕ1) e2
            have hLo : Lo w ti.leaves ps (SV.vals β v.cells) (fsOf ϕ1 v.cells).flatten := ⟨_, rfl, loD_lo hLD hdata⟩
            have hsep : ∀ bb ∈ ϕ1 h, bb ∉ (fsOf ϕ1 v.cells).flatten := fun bb hbb => e4 h _ hl1 (by simp) bb hbb
            obtain ⟨w', b, f', hϕ, r1, r3, r4, r5, r6, r7, g1, g2, g3, rfl, hnew⟩ := core Lo lok_lo (fun w w' _ _ _ _ hh hf => hh.frame hf) (tk.hp.sat _ _ hl1) hLo (fun b r hb => ⟨by
              have : (ϕ1 h).Nodup := hndh
              rw [hb] at this; exact (List.nodup_cons.1 this).1, hsep b (by rw [hb]; simp)⟩)
            have hnd2 : (b :: (g1 ++ g2 ++ g3)).Nodup := by have : (ϕ1 h).Nodup := hndh; rwa [hϕ] at this
            obtain ⟨n1, n2⟩ := List.nodup_cons.1 hnd2
            obtain ⟨n3, n4, n5⟩ := List.nodup_append.1 n2
            obtain ⟨n6, n7, n8⟩ := List.nodup_append.1 n3
            have hsub : ∀ bb ∈ g1 ++ g2 ++ g3, bb ∈ ϕ1 h := fun bb hbb => by rw [hϕ]; exact List.mem_cons_of_mem _ hbb
            refine finish _ w' b g1 g2 g3 hϕ r1 r3 r4 r5 r6 r7 (by simp) (by simp) hnew (by simp [owned, hϕ]) ?_ ?_ ?_ ?_ ?_
            · refine List.nodup_cons.2 ⟨?_, List.nodup_append.2 ⟨List.nodup_append.2 ⟨n6, e3, ?_⟩, n4, ?_⟩⟩
              · intro hm
                simp only [List.mem_append] at hm
                rcases hm with (hm | hm) | hm
                · exact n1 (by simp [hm])
                · exact hsep b (by rw [hϕ]; simp) hm
                · exact n1 (by simp [hm])
              · intro x hx y hy e; subst e; exact hsep x (hsub x (by simp [hx])) hy
              · intro x hx y hy e; subst e
                rcases List.mem_append.1 hx with hx | hx
                · exact n5 x (by simp [hx]) x hy rfl
                · exact hsep x (hsub x (by simp [hy])) hx
            · have hap1 : Apart (strike [h] A1) ϕ1 (ϕ1 h) := strike_apart tk.hp fun bb hbb => ⟨h, by simp, _, hl1, by simpa [owned] using hbb⟩
              intro i' hl' hi' hd' bb hbb hm
              simp only [owned, List.mem_cons, List.mem_append] at hm
              rcases hm with rfl | (hm | hm) | hm
              · exact hap1 i' hl' hi' hd' _ hbb (by rw [hϕ]; simp)
              · exact hap1 i' hl' hi' hd' _ hbb (hsub _ (by simp [hm]))
              · exact e4 i' hl' (strike_lk hi' hd').1 hd' bb hbb hm
              · exact hap1 i' hl' hi' hd' _ hbb (hsub _ (by simp [hm]))
            · intro i' hl' hi' bb hbb hm
              by_cases hd' : hl' = .dead
              · subst hd'; simp [owned] at hbb
              · exact e4 i' hl' (strike_lk hi' hd').1 hd' bb (owned_sub bb hbb) hm
            · intro bb hbb
              simp only [owned, List.mem_cons, List.mem_append] at hbb
              rcases hbb with rfl | (hm | hm) | hm
              · exact tk.hp.own _ _ hl1 _ (by simp [owned, hϕ])
              · exact tk.hp.own _ _ hl1 _ (by simpa [owned] using hsub _ (by simp [hm]))
              · exact (e5 bb hm).1
              · exact tk.hp.own _ _ hl1 _ (by simpa [owned] using hsub _ (by simp [hm]))
            · exact fun bb hbb => (e5 bb hbb).2
          · -- what lies behind is shared
            subst e1
            rw [← fsOf_flat] at e3 e4
            have hLv := resLs_lv hres q4 hoks (ϕ' := ϕ1) e2
            have hown : OwnS w (β h).v T es (ϕ1 h) := by
              have := tk.hp.sat _ _ hl1
              rcases how with rfl | rfl
              · exact ownD_S this
              · exact this
            have hbh : ∀ b r, ϕ1 h = b :: r → b ∈ owned (ϕ1 h) (.arr ow T es p1) := by
              intro b r hb; rw [hb]; rcases how with rfl | rfl <;> simp [owned]
            have hbn : ∀ b r, ϕ1 h = b :: r → b ∉ r := by
              intro b r hb
              rcases how with rfl | rfl
              · have : (ϕ1 h).Nodup := hndh
                rw [hb] at this; exact (List.nodup_cons.1 this).1
              · exact hndh b r hb
            obtain ⟨w', b, f', hϕ, r1, r3, r4, r5, r6, r7, g1, g2, g3, rfl, hnew⟩ := core Lv lok_lv (fun w w' _ _ _ _ hh hf => hh.frame hf) hown hLv (fun b r hb => ⟨hbn b r hb, e3 h _ hl1 b (hbh b r hb)⟩)
            refine finish _ w' b g1 g2 g3 hϕ r1 r3 r4 r5 r6 r7 (by simp) (by simp) hnew (hbh _ _ hϕ) ?_ ?_ ?_ ?_ e4
            · intro b' r' e
              cases e
              intro hm
              simp only [List.mem_append] at hm
              rcases hm with (hm | hm) | hm
              · exact hbn _ _ hϕ (by simp [hm])
              · exact e3 h _ hl1 b (hbh _ _ hϕ) hm
              · exact hbn _ _ hϕ (by simp [hm])
            · refine strike_apart tk.hp fun bb hbb => ?_
              simp only [owned, List.take_succ_cons, List.take_zero, List.mem_singleton] at hbb
              subst hbb
              exact ⟨h, by simp, _, hl1, hbh _ _ hϕ⟩
            · intro i' hl' hi' bb hbb hm
              by_cases hd' : hl' = .dead
              · subst hd'; simp [owned] at hbb
              · exact e3 i' hl' (strike_lk hi' hd').1 bb hbb hm
            · intro bb hbb
              simp only [owned, List.take_succ_cons, List.take_zero, List.mem_singleton] at hbb
              subst hbb
              exact tk.hp.own _ _ hl1 _ (hbh _ _ hϕ)
        · cases hR
      · cases hR
    · -- an array
      rename_i T es hl
      split at hR
      · rename_i hlen
        split at hR
        · rename_i obr ps hres
          cases hR
          obtain ⟨_, q2, q3, q4, q5, q6, q7, q9, q10, q11, hd⟩ := hob
          subst q5
          obtain ⟨x1, x2⟩ := ev_sound hx sat
          replace x1 := x1 q2
          obtain ⟨x3, bx, ox, hbx⟩ := x2 q2
          rw [val_elp hbx] at x3
          obtain ⟨y1, y2⟩ := ev_sound hy sat
          replace y1 := y1 q3
          obtain ⟨y3, y4⟩ := y2 q3
          obtain ⟨fn, hnv, _⟩ := resLs_sound hres q4 sat.hp (oks_cells y4)
          have hfn : fn = [] := flat_fp hnv (by
            intro t' ht'
            rw [← q6] at ht'
            exact flat_ty q9 t' (List.mem_of_mem_drop (List.mem_of_mem_take ht')))
          subst hfn
          obtain ⟨hfb, hS, b, t', c, hv, hϕ, hblk, hL⟩ := sat.hp.sat _ _ hl
          rw [hv] at hbx
          simp only [addrOf, Option.some.injEq, Prod.mk.injEq] at hbx
          obtain ⟨rfl, rfl⟩ := hbx
          obtain ⟨v1, v2, v3, g1, g2, g3, hcs, hg, hl1, hl2, hL1, hL2, hL3⟩ := elem_split (lok_lv w) hL hS q7 hlen
          simp only [List.nil_eq_append_iff, List.append_eq_nil_iff] at hg
          obtain ⟨⟨rfl, rfl⟩, rfl⟩ := hg
          have hcl : v.cells.length = ti.sz := by
            have h1 := hnv.lens
            simp only [SV.vals_map, List.length_map] at h1
            rw [h1.2, ← h1.1]; rfl
          have hvl : (SV.vals β v.cells).length = ti.sz := by simp [SV.vals_map, hcl]
          have hpl : ps.length = ti.sz := (hnv.lens).1.symm
          have hsz : c.size = v1.length + v2.length + v3.length := by
            have := congrArg List.length hcs
            simpa [List.length_append, Nat.add_assoc] using this
          obtain ⟨w', r1, r2, r3, r4, r5, r6, r7⟩ := run_storeEl (P := P) (β := β) (v := v) hTk ho x3 y3 sat.hp.pl hcl q11 hblk (by omega) (by simp)
          obtain ⟨s1, s2, s3⟩ := storeEl_flat (off := off) (ps := ps) hS q7 (by rw [hpl]; exact hlen) (hnv.leaves_of) (by rw [hpl]; exact hTk.pos)
          have hnew : HLSat w' (β h) β (ϕ h) (.abx true T (storeEl T es i off ps)) := by
            refine ⟨hfb, s2, b, t', _, hv, hϕ, r2, ?_⟩
            have h4 := (hL1.append (hnv.append hL3)).frame (w' := w') (by simp)
            rw [s3, s1, hpl, flatT_split q7 hlen, q6]
            have e0 : 0 + i * T.wd + off = v1.length := by omega
            have e1 : c.toList.take (0 + i * T.wd + off) = v1 := by
              rw [e0, hcs, List.append_assoc, List.take_left]
            have e2 : c.toList.drop (0 + i * T.wd + off + ti.sz) = v3 := by
              rw [e0, hcs, ← hl2, ← List.length_append, List.drop_left]
            rw [List.toList_toArray, e1, e2]
            simpa [List.append_assoc] using h4
          have hb1 : b ∈ X ∨ w0.heap.size ≤ b := sat.hp.own _ _ hl b (by simp [owned, hϕ])
          have h2 := sat.hp.redo (A' := set1 (strike [h] S.A) h (.abx true T (storeEl T es i off ps))) (f := ϕ h) (hl0 := .abx true T (storeEl T es i off ps)) (fun j => lk_set1' _ _ _) hl hnew (fun b hb' => .inl (by simpa [owned] using hb')) (fun k _ hk => r3 k (by rw [hϕ] at hk; simpa [owned] using hk)) trivial (by simp) (by simp [roots]) (by simp) (fun _ => trivial) (fun o t cs e => by cases e)
          have hid : upd ϕ h (ϕ h) = ϕ := by funext k; unfold upd; split <;> simp_all
          rw [hid] at h2
          exact ⟨trivial, undef, w', β, ϕ, .inr ⟨r1, rfl⟩, ⟨fun hh => absurd hd hh, fun _ _ => rfl, h2, bd_put (strike_bd sat.hb _) (fun j => lk_set1' _ _ _) (sat.hb _ _ hl).1 trivial, trivial, trivial, Nat.le_refl _, sat.fr.store r4 r5 r6 r7 hb1 r3⟩, fun h => by simp [stillP, convP, ho] at h, fun h => by simp [growP, ho] at h⟩
        · cases hR
      · cases hR
    · cases hR
  · cases hR
end
end Go.Proofs.YtkofjkjcbljkdaaGreatDoor
end

