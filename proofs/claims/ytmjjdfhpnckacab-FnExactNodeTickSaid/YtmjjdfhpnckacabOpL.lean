/-
  Copying between slices of scalars.
  Conditions: none.
-/
import Derived.Test.YtmjjdfhpnckacabCalp
import Derived.Laws.IdiomCopy
namespace Go.Proofs.Ytmjjdfhpnckacab
set_option linter.unusedVariables false
section
variable {P : Program} {E : Env} {N : Nat} {w0 : World} {X F : List Nat} {S : St} {β : Nat → GV} {ϕ : Nat → List Nat} {a : Act} {w w' : World} {o : Oper} {R : RR} {A : Hp} {B : Nat}

theorem addr_add0 (x : Addr) : x.add 0 = x := by cases x; rfl

theorem copyTo_sound {h r lo n : Nat} {T : PTy} {es : List PV} (hc : copyTo A h = some (r, lo, T, es, n)) (hp : Holds B X F A β ϕ w) :
    ∃ p, lk A r = some (.arr .dp T es p) ∧ lo + n ≤ es.length ∧ ∃ ad l cap, (β r).v = .slice ad l cap ∧ (β h).v = .slice (if cap = lo then ad else ad.map fun x => x.add (lo * T.wd)) n (cap - lo) := by
  unfold copyTo at hc
  split at hc
  · rename_i T' es' p hl
    cases hc
    obtain ⟨_, cap, ad, hv, _⟩ := lv_len (hp_lv hp hl (fun k => by simp))
    refine ⟨p, hl, by omega, ad, _, cap, hv, ?_⟩
    rw [hv]
    congr 1
    split
    · rfl
    · cases ad <;> simp [addr_add0]
  · rename_i rs T' es' r' lo' hl
    split at hc
    · rename_i T2 es2 p2 hr
      cases hc
      obtain ⟨_, es3, p3, h1, h2, _, ad, l, cap, h4, h5⟩ := hp.pt _ _ hl
      rcases h1 with h1 | h1
      · rw [hr] at h1; cases h1
        exact ⟨_, hr, h2, ad, l, cap, h4, h5⟩
      · rw [hr] at h1; cases h1
    · cases hc
  · cases hc

theorem flatL_ty {T : PTy} (h : flatL T = true) : flatB T = true ∧ T.leaves = [T] ∧ T.wd = 1 ∧ ∀ ts, T ≠ .agg ts := by
  cases T <;> simp [flatL] at h <;> exact ⟨rfl, rfl, rfl, by simp⟩

/-- Cells copied from one block into another one, or within one. -/
theorem run_copyRow {dT sT ty elem t b o dLen dCap b2 o2 sLen sCap : Nat} {c c2 : Array Value} {fr fr2 : Nat × Nat} {t2 : Nat} {cs : List Value} (hu : P.underlying dT = some (.slice elem)) (hs : (P.info? elem).map (·.size) = some 1) (hn : cs.length = Nat.min sLen dLen)
    (hb2 : w.heap[b2]? = some (.cells c2 t2 fr2)) (hcs : (c2.toList.drop o2).take cs.length = cs) (hb : w.heap[b]? = some (.cells c t fr)) (hbnd : o + cs.length ≤ c.size) (hf : ∀ j, j < c.size → ¬ (fr.1 ≤ j ∧ j < fr.2)) (h1 : ∀ v ∈ cs, v.oneCell' = true) :
    ∃ w', (Builtin.copy_ #[dT, sT] ty #[.slice (some ⟨b, o, none⟩) dLen dCap, .slice (some ⟨b2, o2, none⟩) sLen sCap]).run P w = .ok (goInt cs.length) w' ∧ w'.heap[b]? = some (.cells (c.toList.take o ++ cs ++ c.toList.drop (o + cs.length)).toArray t fr) ∧
      (∀ k, k ≠ b → w'.heap[k]? = w.heap[k]?) ∧ w'.os = w.os ∧ w'.tape = w.tape ∧ w'.output = w.output ∧ w'.heap.size = w.heap.size := by
  have hl := run_loadCells_list (P := P) w ⟨b2, o2, none⟩ cs (fun j v hj => by
    rw [addr_add, cell_of_row w b2 _ c2 t2 fr2 hb2]
    have hlt := (List.getElem?_eq_some_iff.1 hj).1
    rw [← hcs, List.getElem?_take, if_pos hlt, List.getElem?_drop, Array.getElem?_toList] at hj
    exact hj)
  obtain ⟨w', r1, r2, r3⟩ := run_storeCells_gen (P := P) b t fr cs o 0 c w hb (by omega) hf h1
  refine ⟨w', ?_, by simpa using r2, r3⟩
  cases hq : P.info? elem with
  | none => simp [hq] at hs
  | some i =>
    have hi : i.size = 1 := by simpa [hq] using hs
    simp [Builtin.copy_, run_underlying hu, Builtin.lenOf, Builtin.firstCells, sizeOf, typeInfo, hq, hi, ← hn, hl, r1]

theorem s_copy {c : Call} {vs : List SV} {ob : Prop} (hT : EnvTy P E) (ho : o.op = .call c) (hc : c.callee = .builtin .copy) (hvs : evs S true c.args.toList = some (ob, vs))
    (hR : builtinRes E S true .copy c.argTypes.toList ob vs = some R) (sat : Sat N w0 X F S β ϕ a w) (hob : R.ob) : Snd P w0 X F S β ϕ o a w R := by
  obtain ⟨e1, e2⟩ := evs_sound hvs sat
  have key : ∃ t u h s, c.argTypes.toList = [t, u] ∧ vs = [.sl h, .sl s] ∧ copyRes E S true ob t h s = some R := by
    unfold builtinRes at hR
    split at hR
    case h_4 => rename_i t u h s hb hts; exact ⟨_, _, _, _, hts, rfl, hR⟩
    all_goals first | (exfalso; rename_i hb; simp at hb; done) | (exfalso; rename_i hb _; simp at hb; done) | (exfalso; rename_i hb _ _; simp at hb; done) | (exfalso; rename_i hb _ _ _; simp at hb; done) | cases hR
  obtain ⟨t, u, h, s, hat, rfl, hcr⟩ := key
  have hat2 : c.argTypes = #[t, u] := by apply Array.ext'; simpa using hat
  unfold copyRes at hcr
  split at hcr
  case h_2 => cases hcr
  rename_i r lo T es n ti hct hti
  split at hcr
  case h_2 => cases hcr
  rename_i o' new te hsrc hte
  cases hcr
  obtain ⟨_, q1, q2, q3, q4, q5⟩ := hob
  subst q4
  obtain ⟨consts, hr0⟩ := run_builtin ho hc hvs q1 sat
  obtain ⟨hfB, hfl, hwd, hfa⟩ := flatL_ty q5
  have hTe := hT _ _ hte
  have hu := (hT _ _ hti).und
  rw [q3] at hu
  have hsz : (P.info? ti.el).map (·.size) = some 1 := by
    obtain ⟨i, h1, h2, _⟩ := hTe.info
    rw [h1]
    have := (pty_wd hTe).1
    rw [hwd] at this
    simp [h2, ← this]
  obtain ⟨p, hlr, hlo, ad, l, cap0, hvr, hvh⟩ := copyTo_sound hct sat.hp
  -- the source
  have hsrc2 : ∃ o2 p2, lk S.A s = some (.arr o2 te.pty new p2) ∧ ∀ k, o2 ≠ .cs k := by
    simp only [srcOf] at hsrc
    split at hsrc
    · cases hsrc
    · rename_i o2 T2 es2 p2 hn hl
      simp only [Option.some.injEq, Prod.mk.injEq] at hsrc
      obtain ⟨rfl, rfl⟩ := hsrc
      have : T2 = te.pty := q2
      subst this
      exact ⟨o2, p2, hl, fun k e => hn k (by rw [e])⟩
    · cases hsrc
  obtain ⟨o2, p2, hls, hncs⟩ := hsrc2
  have hLs := hp_lv sat.hp hls hncs
  obtain ⟨hnl, cs', as', hvs', hcs'⟩ := lv_len hLs
  have hst := sat.hp.struck [r]
  have hap : Apart (strike [r] S.A) ϕ (ϕ r) := strike_apart sat.hp fun b hb => ⟨r, by simp, _, hlr, hb⟩
  have hr1 : execOp a.eval o = Builtin.copy_ #[t, u] o.type #[(β h).v, (β s).v] >>= fun v => pure (.value v) := by
    rw [hr0]
    simp [builtin, hat2, SV.vals, SV.val]
  have hO : OwnD w (β r).v te.pty es (ϕ r) := sat.hp.sat _ _ hlr
  have hk0 : inR .i64 ((min new.length n : Nat) : Int) := by
    simp only [inR, IntKind.min, IntKind.max, IntKind.signed, IntKind.bits]; unfold LIM at hnl; omega
  have hrn : r < S.n := (sat.hb _ _ hlr).1
  by_cases hk : min new.length n = 0
  · -- nothing is copied
    have hes : es.take lo ++ new.take n ++ es.drop (lo + min new.length n) = es := by
      have : new.take n = [] := List.eq_nil_of_length_eq_zero (by rw [List.length_take]; omega)
      rw [this, List.append_nil, hk, Nat.add_zero, List.take_append_drop]
    obtain ⟨b1, b2, _⟩ := put_own (h := r) (G := []) hst (strike_bd sat.hb [r]) hrn (fun hl' hl2 => strike_dead (by simp) hl2) hO (by rw [List.append_nil]; exact sat.hp.nd _ _ hlr) (fun x hx => ⟨sat.hp.own _ _ hlr x hx, sat.hp.all _ _ hlr trivial x hx⟩) (by simpa using hap)
    refine ⟨trivial, _, w, β, upd ϕ r (ϕ r), .inl ?_, ⟨fun _ => rfl, fun _ _ => rfl, ?_, ?_, trivial, hk0, Nat.le_refl _, sat.fr⟩, fun h => by simp [stillP, convP, ho, hc] at h, fun h => by simp [growP, ho, hc] at h⟩
    · rw [hr1, hvh, hvs', Sem.run_bind, run_copy_none (P := P) w t u o.type ti.el _ _ _ _ _ _ hu hsz (by omega)]
      simp only [hk]
      rfl
    · show Holds _ _ _ (set1 (strike [r] S.A) r (.arr .dp te.pty (es.take lo ++ new.take n ++ es.drop (lo + min new.length n)) .no)) _ _ _
      rw [hes]; exact b1
    · show Bd _ _ (set1 (strike [r] S.A) r (.arr .dp te.pty (es.take lo ++ new.take n ++ es.drop (lo + min new.length n)) .no))
      rw [hes]; exact b2
  · -- cells are copied
    rcases hO with ⟨e0, _⟩ | ⟨b, f1, cs, hϕ, ⟨⟨o', cap, c', t', fr, hv, hblk, hcap, hle, hmx, hfz, hcs⟩, hlen1, hlim⟩, hS, hL⟩
    · subst e0; simp at hlo; omega
    rw [hv] at hvr
    cases hvr
    rw [if_neg (by omega)] at hvh
    simp only [Option.map_some, addr_add, hwd, Nat.mul_one] at hvh
    obtain ⟨b2, o2', cap2, c2, t2, fr2, cs2, f2, hvs2, hf2, hblk2, hS2, _, hL2, hcs2⟩ := lv_sl hLs (by omega)
    have hLv := hL.lv
    have hf1 : f1 = [] := flat_fp hLv (flatT_ty hfB _)
    have hf2' : f2 = [] := flat_fp hL2 (flatT_ty hfB _)
    subst hf1 hf2'
    have hwd' : te.pty.wd = 1 := hwd
    -- the pieces
    have fl : ∀ (l : List PV), (∀ e ∈ l, Shp te.pty e) → (flatP l).length = l.length := fun l hl => by rw [flatP_len hl, hwd', Nat.mul_one]
    have hsub : ∀ {l m : List PV}, (∀ e ∈ l ++ m, Shp te.pty e) → (∀ e ∈ l, Shp te.pty e) ∧ ∀ e ∈ m, Shp te.pty e := fun h => ⟨fun e he => h e (by simp [he]), fun e he => h e (by simp [he])⟩
    generalize hkk : min new.length n = k at *
    have hsplit : es = es.take lo ++ ((es.drop lo).take k ++ (es.drop lo).drop k) := by rw [List.take_append_drop, List.take_append_drop]
    have hl1 : (es.take lo).length = lo := by rw [List.length_take]; omega
    have hl2 : ((es.drop lo).take k).length = k := by rw [List.length_take, List.length_drop]; omega
    have hl3 : ((es.drop lo).drop k).length = es.length - (lo + k) := by rw [List.length_drop, List.length_drop]; omega
    have hS1 : (∀ e ∈ es.take lo, Shp te.pty e) ∧ (∀ e ∈ (es.drop lo).take k, Shp te.pty e) ∧ ∀ e ∈ (es.drop lo).drop k, Shp te.pty e :=
      ⟨fun e he => hS e (List.mem_of_mem_take he), fun e he => hS e (List.mem_of_mem_drop (List.mem_of_mem_take he)), fun e he => hS e (List.mem_of_mem_drop (List.mem_of_mem_drop he))⟩
    obtain ⟨v1, v23, g1, g23, rfl, hgg, hA1, hA23⟩ := hLv.split (T1 := flatT te.pty lo) (T2 := flatT te.pty (k + (es.length - (lo + k)))) (p1 := flatP (es.take lo)) (p2 := flatP ((es.drop lo).take k ++ (es.drop lo).drop k))
      (by rw [← flatT_add]; congr 1; omega) (by rw [← flatP_append, ← hsplit]) (by rw [flatT_len, hwd', fl _ hS1.1, hl1, Nat.mul_one])
    obtain ⟨v2, v3, g2, g3, rfl, hgg', hA2, hA3⟩ := hA23.split (T1 := flatT te.pty k) (T2 := flatT te.pty (es.length - (lo + k))) (p1 := flatP ((es.drop lo).take k)) (p2 := flatP ((es.drop lo).drop k))
      (by rw [← flatT_add]) (by rw [← flatP_append]) (by rw [flatT_len, hwd', fl _ hS1.2.1, hl2, Nat.mul_one])
    obtain ⟨u1, u2, m1, m2, rfl, hmm, hB1, hB2⟩ := hL2.split (T1 := flatT te.pty k) (T2 := flatT te.pty (new.length - k)) (p1 := flatP (new.take k)) (p2 := flatP (new.drop k))
      (by rw [← flatT_add]; congr 1; omega) (by rw [← flatP_append, List.take_append_drop]) (by rw [flatT_len, hwd', fl _ (fun e he => hS2 e (List.mem_of_mem_take he)), List.length_take, Nat.mul_one]; omega)
    have hg1 : g1 = [] ∧ g2 = [] ∧ g3 = [] ∧ m1 = [] := ⟨flat_fp hA1 (flatT_ty hfB _), flat_fp hA2 (flatT_ty hfB _), flat_fp hA3 (flatT_ty hfB _), flat_fp hB1 (flatT_ty hfB _)⟩
    obtain ⟨rfl, rfl, rfl, rfl⟩ := hg1
    have hn1 : v1.length = lo := by rw [hA1.lens.2, fl _ hS1.1, hl1]
    have hn2 : v2.length = k := by rw [hA2.lens.2, fl _ hS1.2.1, hl2]
    have hn3 : u1.length = k := by rw [hB1.lens.2, fl _ (fun e he => hS2 e (List.mem_of_mem_take he)), List.length_take]; omega
    have hn4 : v3.length = es.length - (lo + k) := by rw [hA3.lens.2, fl _ hS1.2.2, hl3]
    have hcu : (c2.toList.drop o2').take u1.length = u1 := by
      have := congrArg (List.take u1.length) hcs2
      rw [List.take_take, List.take_append_of_le_length (Nat.le_refl _), List.take_length] at this
      rw [List.length_append] at this
      rwa [Nat.min_eq_left (by omega)] at this
    have hct : ∃ pre post, c'.toList = pre ++ (v1 ++ (v2 ++ v3)) ++ post ∧ pre.length = o' := by
      have h2 := congrArg List.length hcs
      rw [List.length_take, List.length_drop] at h2
      simp only [Array.length_toList, List.length_append] at h2
      refine ⟨c'.toList.take o', c'.toList.drop (o' + (v1 ++ (v2 ++ v3)).length), ?_, ?_⟩
      · conv => lhs; rw [← List.take_append_drop o' c'.toList, ← List.take_append_drop (v1 ++ (v2 ++ v3)).length (c'.toList.drop o'), hcs, List.drop_drop]
        simp only [List.append_assoc]
      · rw [List.length_take, Array.length_toList]; omega
    obtain ⟨pre, post, hct, hpre⟩ := hct
    have hcsz : c'.size = pre.length + (lo + (k + (es.length - (lo + k)))) + post.length := by
      rw [← Array.length_toList, hct]; simp only [List.length_append]; omega
    have hone : ∀ v ∈ u1, v.oneCell' = true := lv_one hB1
    obtain ⟨w', r1, r2, r3, r4, r5, r6, r7⟩ := run_copyRow (P := P) (ty := o.type) (sT := u) (dLen := n) (dCap := cap0 - lo) (sLen := new.length) (sCap := cap2) (o := o' + lo) (cs := u1) hu hsz (by rw [hn3, ← hkk]) hblk2 hcu hblk (by omega) hfz hone
    have hnew : (c'.toList.take (o' + lo) ++ u1 ++ c'.toList.drop (o' + lo + u1.length)) = pre ++ (v1 ++ (u1 ++ v3)) ++ post := by
      rw [hct]
      have e1 : (pre ++ (v1 ++ (v2 ++ v3)) ++ post).take (o' + lo) = pre ++ v1 := by
        rw [show pre ++ (v1 ++ (v2 ++ v3)) ++ post = (pre ++ v1) ++ (v2 ++ (v3 ++ post)) by simp only [List.append_assoc], List.take_left' (by rw [List.length_append]; omega)]
      have e2 : (pre ++ (v1 ++ (v2 ++ v3)) ++ post).drop (o' + lo + u1.length) = v3 ++ post := by
        rw [show pre ++ (v1 ++ (v2 ++ v3)) ++ post = (pre ++ v1 ++ v2) ++ (v3 ++ post) by simp only [List.append_assoc], List.drop_left' (by rw [List.length_append, List.length_append]; omega)]
      rw [e1, e2]; simp only [List.append_assoc]
    rw [hnew] at r2
    have hb1 : b ∈ X ∨ w0.heap.size ≤ b := sat.hp.own _ _ hlr b (by simp [owned, hϕ])
    have hnL : (new.take n).length = k := by rw [List.length_take]; omega
    have hnt : new.take n = new.take k := by rw [← hkk, List.take_eq_take_iff]; omega
    have hSn : ∀ e ∈ es.take lo ++ new.take n ++ es.drop (lo + k), Shp te.pty e := by
      intro e he
      simp only [List.mem_append] at he
      rcases he with (he | he) | he
      · exact hS e (List.mem_of_mem_take he)
      · exact hS2 e (List.mem_of_mem_take he)
      · exact hS e (List.mem_of_mem_drop he)
    have hlenN : (es.take lo ++ new.take n ++ es.drop (lo + k)).length = es.length := by
      simp only [List.length_append, hl1, hnL, List.length_drop]; omega
    have hnoB : ∀ {Ts : List PTy} {ps : List PV} {vs : List Value}, Lv w Ts ps vs [] → Lv w' Ts ps vs [] := fun h => h.frame (by simp)
    have hown' : OwnD w' (β r).v te.pty (es.take lo ++ new.take n ++ es.drop (lo + k)) [b] := by
      refine ownS_D hfB (.inr ⟨b, [], v1 ++ (u1 ++ v3), rfl, ⟨⟨o', cap0, (pre ++ (v1 ++ (u1 ++ v3)) ++ post).toArray, t', fr, by rw [hlenN]; exact hv, r2, ?_, by rw [hlenN]; exact hle, hmx, ?_, ?_⟩, ?_, by rw [hlenN]; exact hlim⟩, hSn, ?_⟩)
      · simp only [List.size_toArray, List.length_append] at hcap ⊢
        omega
      · intro i hi
        exact hfz i (by simp only [List.size_toArray, List.length_append] at hi; omega)
      · rw [List.toList_toArray, List.append_assoc, List.drop_left' hpre, List.take_left' rfl]
      · simp only [List.length_append, hlenN, hwd']; omega
      · have h5 := (hnoB hA1).append ((hnoB hB1).append (hnoB hA3))
        simp only [List.append_nil] at h5
        rw [hlenN, hnt, List.append_assoc, flatP_append, flatP_append]
        rw [← flatT_add, ← flatT_add, List.drop_drop] at h5
        have e9 : lo + (k + (es.length - (lo + k))) = es.length := by omega
        rw [e9] at h5
        exact h5
    have hst' : Holds w0.heap.size X F (strike [r] S.A) β ϕ w' := hst.world fun i hl hi hd x hx => r3 x fun e => hap i hl hi hd x hx (by rw [e, hϕ]; simp)
    obtain ⟨b1, b2', _⟩ := put_own (h := r) (G := []) hst' (strike_bd sat.hb [r]) hrn (fun hl' hl2 => strike_dead (by simp) hl2) hown' (by simp) (fun x hx => by rw [List.mem_singleton] at hx; subst hx; exact ⟨hb1, sat.hp.all _ _ hlr trivial x (by rw [hϕ]; simp)⟩) (by
      rw [List.append_nil]
      exact hap.mono fun x hx => by rw [hϕ]; exact hx)
    refine ⟨trivial, _, w', β, upd ϕ r [b], .inl ?_, ⟨fun _ => rfl, fun _ _ => rfl, b1, b2', trivial, hk0, Nat.le_refl _, sat.fr.store r4 r5 r6 r7 hb1 r3⟩, fun h => by simp [stillP, convP, ho, hc] at h, fun h => by simp [growP, ho, hc] at h⟩
    rw [hr1, hvh, hvs2, Sem.run_bind, r1, hn3]
    rfl

end
end Go.Proofs.Ytmjjdfhpnckacab
