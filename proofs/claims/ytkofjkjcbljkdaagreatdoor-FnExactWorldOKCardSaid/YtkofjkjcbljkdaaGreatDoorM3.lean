/-
  Part 3 of the proof of FnExactWorldOK: a verification-condition generator over the program and the contracts of its functions, in the order of their use.
  Conditions: none.
-/
import Derived.Test.YtkofjkjcbljkdaaGreatDoorM2
set_option linter.unusedVariables false
set_option linter.unusedSimpArgs false
set_option linter.unusedSectionVars false

section
namespace Go.Proofs.YtkofjkjcbljkdaaGreatDoor
variable [LaidG]
set_option linter.unusedVariables false
section
variable {P : Program} {E : Env} {N : Nat} {w0 : World} {X F : List Nat} {S : St} {β : Nat → GV} {ϕ : Nat → List Nat} {a : Act} {w w' : World} {o : Oper} {R : RR} {A : Hp} {B : Nat}
theorem s_assign {x : Operand} (hT : EnvTy P E) (ho : o.op = .assign x) (hR : opRes0 E S true o = some R) (sat : Sat N w0 X F S β ϕ a w) (hob : R.ob) : Snd P w0 X F S β ϕ o a w R := by
  unfold opRes0 at hR
  rw [ho] at hR
  simp only at hR
  split at hR
  · rename_i g' v hx
    generalize lvsOf E o.type = Ts at hR
    split at hR
    · cases hR
      obtain ⟨x1, x2⟩ := ev_sound hx sat
      replace x1 := x1 (hob rfl)
      obtain ⟨x3, x4⟩ := x2 (hob rfl)
      exact snd_pure sat trivial (by simp [execOp, ho, x3]) x1 x4
    · cases hR
      obtain ⟨_, q2, q3⟩ := hob
      obtain ⟨x1, x2⟩ := ev_sound hx sat
      replace x1 := x1 q2
      obtain ⟨x3, x4⟩ := x2 q2
      obtain ⟨β', ϕ', a1, a2, a3, a4, a5, a6, a7, a8, a9, a10⟩ := fixL_sound Ts v.cells S.n S.A β ϕ sat.hp sat.hb (lts_cells x1) (oks_cells x4)
      have hv : SV.val β' (v.ofCells (fixL S.n Ts v.cells).1) = SV.val β v ∧ SV.lt (fixL S.n Ts v.cells).2.2 (v.ofCells (fixL S.n Ts v.cells).1) ∧ SV.ok β' (v.ofCells (fixL S.n Ts v.cells).1) := by
        by_cases hA : ∃ ys, v = .agg ys
        · obtain ⟨ys, rfl⟩ := hA
          simp only [SV.cells] at a5 a6 a7 ⊢
          exact ⟨by simp only [SV.ofCells, SV.val, a5], a6, a7⟩
        · have hc : v.cells = [v] := by cases v <;> first | rfl | exact absurd ⟨_, rfl⟩ hA
          have ho2 : ∀ xs, v.ofCells xs = xs.headD .nilp := by intro xs; cases v <;> first | rfl | exact absurd ⟨_, rfl⟩ hA
          rw [hc] at a5 a6 a7 a9 ⊢
          obtain ⟨z, hz⟩ := List.length_eq_one_iff.1 a9
          rw [ho2, hz]
          rw [hz] at a5 a6 a7
          simp only [SV.vals, List.cons.injEq, and_true] at a5
          exact ⟨a5, a6.1, a7.1⟩
      refine ⟨trivial, _, w, β', ϕ', .inl ?_, ⟨fun _ => rfl, a3, a1, a2, hv.2.1, hv.2.2, a8, sat.fr⟩, fun h => by simp [stillP, convP, ho] at h, fun _ => Fr.refl _ _⟩
      rw [hv.1]
      simp [execOp, ho, x3]
  · cases hR
theorem run_builtin {c : Call} {b : Builtin} {vs : List SV} {ob : Prop} (ho : o.op = .call c) (hc : c.callee = .builtin b) (hvs : evs S true c.args.toList = some (ob, vs)) (hob : ob) (sat : Sat N w0 X F S β ϕ a w) :
    ∃ consts, execOp a.eval o = builtin b c.argTypes o.type consts (SV.vals β vs).toArray := by
  obtain ⟨_, h2⟩ := evs_sound hvs sat
  obtain ⟨h3, _⟩ := h2 rfl hob
  refine ⟨c.args.map fun | .const _ => true | _ => false, ?_⟩
  have h4 : Array.map a.eval c.args = (SV.vals β vs).toArray := by
    rw [← h3]; apply Array.ext'; simp
  simp only [execOp, ho, resolve, hc, h4, pure_bind, invoke]
  rfl
theorem s_len {c : Call} {vs : List SV} {ob : Prop} (hT : EnvTy P E) (ho : o.op = .call c) (hc : c.callee = .builtin .len) (hvs : evs S true c.args.toList = some (ob, vs))
    (hR : builtinRes E S true .len c.argTypes.toList ob vs = some R) (sat : Sat N w0 X F S β ϕ a w) (hob : R.ob) : Snd P w0 X F S β ϕ o a w R := by
  obtain ⟨e1, e2⟩ := evs_sound hvs sat
  unfold builtinRes at hR
  split at hR
  · rename_i t ts l hb hts
    split at hR
    · rename_i ti hti
      cases hR
      obtain ⟨q1, q2⟩ := hob rfl
      obtain ⟨consts, hr⟩ := run_builtin ho hc hvs q1 sat
      have hd := (hT _ _ hti).und
      rw [q2] at hd
      have hok := (e2 rfl q1).2.1
      have h0 : c.argTypes[0]? = some t := by rw [← Array.getElem?_toList, hts]; rfl
      refine snd_pure sat hok ?_ trivial (inR_len hok)
      rw [hr]
      have hsz : (ByteArray.mk l.toArray).size = l.length := by simp [ByteArray.size]
      simp [builtin, Builtin.len_, h0, SV.vals, SV.val, underlying, hd, goInt, hsz]
    · cases hR
  · rename_i t ts h hb hts
    split at hR
    · cases hR
    · rename_i ow T es p ti hnc hl hti
      have hnc : ∀ k, ow ≠ .cs k := fun k e => hnc k (by rw [e])
      cases hR
      obtain ⟨q1, q2⟩ := hob rfl
      obtain ⟨consts, hr⟩ := run_builtin ho hc hvs q1 sat
      have hd := (hT _ _ hti).und
      rw [q2] at hd
      have h0 : c.argTypes[0]? = some t := by rw [← Array.getElem?_toList, hts]; rfl
      obtain ⟨hle, cp, ad, hv, _⟩ := lv_len (hl_lv sat hl hnc)
      refine snd_pure sat hle ?_ trivial (inR_len hle)
      rw [hr]
      simp [builtin, Builtin.len_, h0, SV.vals, SV.val, underlying, hd, goInt, hv]
    · cases hR
  all_goals first | (exfalso; rename_i hb; simp at hb; done) | (exfalso; rename_i hb _; simp at hb; done) | (exfalso; rename_i hb _ _; simp at hb; done) | (exfalso; rename_i hb _ _ _; simp at hb; done) | cases hR
theorem s_minmax {c : Call} {b : Builtin} {vs : List SV} {ob : Prop} (hb : b = .min ∨ b = .max) (ho : o.op = .call c) (hc : c.callee = .builtin b) (hvs : evs S true c.args.toList = some (ob, vs))
    (hR : builtinRes E S true b c.argTypes.toList ob vs = some R) (sat : Sat N w0 X F S β ϕ a w) (hob : R.ob) : Snd P w0 X F S β ϕ o a w R := by
  obtain ⟨e1, e2⟩ := evs_sound hvs sat
  have key : ∃ k x k' y, vs = [.int k x, .int k' y] ∧ ((b = .min ∧ R = ⟨True, imp true (ob ∧ k' = k), .int k (if y < x then y else x), S.A, S.n⟩) ∨ (b = .max ∧ R = ⟨True, imp true (ob ∧ k' = k), .int k (if y > x then y else x), S.A, S.n⟩)) := by
    rcases hb with rfl | rfl
    · unfold builtinRes at hR
      split at hR
      case h_5 => cases hR; exact ⟨_, _, _, _, rfl, .inl ⟨rfl, rfl⟩⟩
      all_goals first | (exfalso; rename_i hb; simp at hb; done) | (exfalso; rename_i hb _; simp at hb; done) | (exfalso; rename_i hb _ _; simp at hb; done) | (exfalso; rename_i hb _ _ _; simp at hb; done) | cases hR
    · unfold builtinRes at hR
      split at hR
      case h_6 => cases hR; exact ⟨_, _, _, _, rfl, .inr ⟨rfl, rfl⟩⟩
      all_goals first | (exfalso; rename_i hb; simp at hb; done) | (exfalso; rename_i hb _; simp at hb; done) | (exfalso; rename_i hb _ _; simp at hb; done) | (exfalso; rename_i hb _ _ _; simp at hb; done) | cases hR
  obtain ⟨k, x, k', y, rfl, ⟨rfl, rfl⟩ | ⟨rfl, rfl⟩⟩ := key
  · obtain ⟨q1, q2⟩ := hob rfl
    subst q2
    obtain ⟨consts, hr⟩ := run_builtin ho hc hvs q1 sat
    have h3 := (e2 rfl q1).2
    refine snd_pure sat trivial ?_ trivial ?_
    · rw [hr]; simp [builtin, Builtin.min_, Builtin.min2, SV.vals, SV.val]
    · show inR _ _
      split
      · exact h3.2.1
      · exact h3.1
  · obtain ⟨q1, q2⟩ := hob rfl
    subst q2
    obtain ⟨consts, hr⟩ := run_builtin ho hc hvs q1 sat
    have h3 := (e2 rfl q1).2
    refine snd_pure sat trivial ?_ trivial ?_
    · rw [hr]; simp [builtin, Builtin.max_, Builtin.max2, SV.vals, SV.val]
    · show inR _ _
      split
      · exact h3.2.1
      · exact h3.1
theorem lv_bytes (w : World) : ∀ (l : List UInt8), Lv w (flatT (.int .u8) l.length) (flatP (bytesPV l)) (l.map fun b => Value.int .u8 b.toNat) []
  | [] => .nil
  | b :: l => by
    have h1 := lv_bytes w l
    have h2 : inR .u8 (b.toNat : Int) := by
      have := b.toNat_lt
      have h1 : IntKind.u8.min = 0 := rfl
      have h2 : IntKind.u8.max = 255 := rfl
      simp only [inR, h1, h2]; omega
    have h3 : flatT (.int .u8) (b :: l).length = .int .u8 :: flatT (.int .u8) l.length := by
      simp [flatT, List.replicate_succ, PTy.leaves]
    have h4 : flatP (bytesPV (b :: l)) = .int .u8 b.toNat :: flatP (bytesPV l) := by simp [flatP, bytesPV, PV.leaves]
    rw [h3, h4]
    exact .int h2 h1
theorem lv_ints {k : IntKind} : ∀ {n : Nat} {es : List PV} {cs : List Value} {f : List Nat}, Lv w (flatT (.int k) n) es cs f → cs = es.map fun p => Value.int k p.I
  | 0, es, cs, f, h => by
    have : flatT (.int k) 0 = [] := rfl
    rw [this] at h
    cases h; rfl
  | n + 1, es, cs, f, h => by
    have h3 : flatT (.int k) (n + 1) = .int k :: flatT (.int k) n := by
      simp [flatT, List.replicate_succ, PTy.leaves]
    rw [h3] at h
    cases h with
    | int h1 h2 => rw [lv_ints h2]; rfl
theorem flatP_leaf {T : PTy} {es : List PV} (hS : ∀ e ∈ es, Shp T e) (hT : ∀ ts, T ≠ .agg ts) : flatP es = es := by
  induction es with
  | nil => rfl
  | cons e es ih =>
    have h1 : ∀ qs, e ≠ .agg qs := by
      have := hS e (by simp)
      unfold Shp at this
      split at this
      · exact absurd rfl (hT _)
      · exact this
    have := ih fun x hx => hS x (by simp [hx])
    simp only [flatP, List.flatMap_cons] at this ⊢
    rw [this, leaf_leaves h1]; rfl
theorem foldl_push : ∀ (ns : List Int) (r : ByteArray), ns.foldl (fun r n => r.push (UInt8.ofNat n.toNat)) r = ⟨r.data ++ (ns.map fun n => UInt8.ofNat n.toNat).toArray⟩
  | [], r => by simp
  | n :: ns, r => by
    simp only [List.foldl_cons]
    rw [foldl_push ns]
    simp [ByteArray.push]
theorem run_bytesBack {src dst e : TypeId} {v : Value} {es : List PV} {f : List Nat} (hs : P.underlying src = some (.slice e)) (he : P.underlying e = some (.int .u8)) (hd : P.underlying dst = some .string)
    (hL : Lv w [.list (.int .u8)] [.list es] [v] f) : (convert src dst v).run P w = .ok (.string ⟨(pvBytes es).toArray⟩) w := by
  cases hL with
  | @empty T ad c Ts ps vs fp h =>
    rw [run_convert_bytes_string w src dst e ad 0 c hs he hd]
    cases ad with
    | none => simp [Conv.bytesToString, pvBytes]; rfl
    | some ad =>
      have := run_bytesToString (P := P) w ad 0 c [] (by simp [loadCells, loadCellsFrom])
      rw [this]; rfl
  | @list T es b off cap c t fr cs f1 Ts ps vs fp hb hS hl hv hc ht =>
    rw [run_convert_bytes_string w src dst e _ _ _ hs he hd]
    have hfl := flatP_leaf hS (by simp)
    rw [hfl] at hv
    have hcs := lv_ints hv
    have hlen : cs.length = es.length := by rw [hcs]; simp
    have hbnd : off + es.length ≤ c.size ∨ es.length = 0 := by
      have := congrArg List.length hc
      rw [List.length_take, List.length_drop] at this
      simp only [Array.length_toList] at this
      omega
    have hload : (loadCells ⟨b, off, none⟩ es.length).run P w = .ok ((es.map PV.I).map (Value.int .u8)).toArray w := by
      rcases hbnd with hbnd | hbnd
      · rw [run_loadCells_row (P := P) b off es.length c t fr hb hbnd]
        rw [hlen] at hc
        rw [hc, hcs]; simp [Function.comp_def]
      · have : es = [] := List.eq_nil_of_length_eq_zero hbnd
        subst this
        simp [loadCells, loadCellsFrom]
    rw [run_bytesToString (P := P) w _ _ _ _ hload, foldl_push]
    simp [pvBytes, Function.comp_def]
theorem own_flat {b cap : Nat} {T : PTy} {es : List PV} {c : Array Value} {t : TypeId} {fr : Nat × Nat} {cs : List Value} (hT : flatB T = true) (hblk : w.heap[b]? = some (.cells c t fr)) (hcap : cap * T.wd ≤ c.size) (hle : es.length ≤ cap) (hmx : cap ≤ maxLen) (hlim : es.length ≤ LIM)
    (hfz : NoFz T.u8 c.size fr) (hS : ∀ e ∈ es, Shp T e) (hL : Lv w (flatT T es.length) (flatP es) cs []) (hc : c.toList.take cs.length = cs) : OwnD w (.slice (some ⟨b, 0, none⟩) es.length cap) T es [b] := by
  refine ownS_D hT (.inr ⟨b, [], cs, rfl, ⟨⟨0, cap, c, t, fr, rfl, hblk, by omega, hle, hmx, hfz, by simpa using hc⟩, ?_, hlim⟩, hS, hL⟩)
  rw [hL.lens.2, flatP_len hS]
theorem add_fresh {n : Nat} {T : PTy} {es : List PV} {v : Value} {f : List Nat} (hp : Holds w0.heap.size X F A β ϕ w) (hb : Bd n β A) (hw : Fr w0 X w) (hf : ∀ b, b < w.heap.size → w'.heap[b]? = w.heap[b]?) (ho : OwnD w' v T es f) (hn : f.Nodup) (hnew : ∀ b ∈ f, w.heap.size ≤ b) :
    Holds w0.heap.size X F ((n, .arr .dp T es .no) :: A) (upd β n (gv v)) (upd ϕ n f) w' ∧ Bd (n + 1) (upd β n (gv v)) ((n, .arr .dp T es .no) :: A) :=
  ⟨hp.addNew hb hw hf (lv_one1 ho.lv) ho hnew hn rfl trivial, hb_add hb trivial⟩
theorem drew_alloc_old (w : World) (o : Obj) {b : Nat} (h : b < w.heap.size) : (w.drew.alloc o).heap[b]? = w.heap[b]? := heap_alloc_old w.drew o b h
theorem Fr.drewAlloc (h : Fr w0 X w) (o : Obj) : Fr w0 X (w.drew.alloc o) := 
  ⟨h.os, h.tape, h.output, by have := h.size; show _ ≤ (w.heap.push o).size; simp; omega, fun b hb hn => (drew_alloc_old w o (Nat.lt_of_lt_of_le hb h.size)).trans (h.block b hb hn)⟩
theorem s_convert {src dst : TypeId} {x : Operand} (hT : EnvTy P E) (ho : o.op = .convert src dst x) (hR : opRes0 E S true o = some R) (sat : Sat N w0 X F S β ϕ a w) (hob : R.ob) : Snd P w0 X F S β ϕ o a w R := by
  unfold opRes0 at hR
  rw [ho] at hR
  simp only at hR
  split at hR
  · rename_i g' v ti td hx hti htd
    obtain ⟨x1, x2⟩ := ev_sound hx sat
    have hs := (hT _ _ hti).und
    have hd := (hT _ _ htd).und
    have us := run_underlying (w := w) hs
    have ud := run_underlying (w := w) hd
    unfold convRes at hR
    split at hR
    · rename_i k _ k' n hdk
      cases hR
      replace x1 := x1 (hob rfl)
      obtain ⟨x3, x4⟩ := x2 (hob rfl)
      rw [hdk] at ud
      refine snd_pure sat trivial ?_ trivial (inR_wrap _ _)
      simp [execOp, ho, x3, convert, us, ud, SV.val, Conv.intToInt]
    · rename_i l hdk hsk
      cases hR
      obtain ⟨x3, x4⟩ := x2 (hob rfl)
      rw [hdk] at ud; rw [hsk] at us
      refine snd_pure sat trivial ?_ trivial x4
      simp [execOp, ho, x3, convert, us, ud, SV.val]
    · rename_i e h hdk hsk
      split at hR
      · cases hR
      · rename_i ow T es p te hnc hl hte
        have hnc : ∀ k, ow ≠ .cs k := fun k e => hnc k (by rw [e])
        split at hR
        · rename_i htk
          cases hR
          obtain ⟨q1, q2⟩ := hob rfl
          subst q2
          obtain ⟨x3, x4⟩ := x2 q1
          rw [hdk] at hd; rw [hsk] at hs
          have he := (hT _ _ hte).und
          rw [htk] at he
          refine snd_pure sat trivial ?_ trivial ?_
          · have := run_bytesBack (dst := dst) hs he hd (hl_lv sat hl hnc)
            simp only [execOp, ho, x3, SV.val, Sem.run_bind, this, Result.andThen_ok, Sem.run_pure]
          · have := (lv_len (hl_lv sat hl hnc)).1
            show (pvBytes es).length ≤ LIM
            simpa [pvBytes] using this
        · cases hR
      · cases hR
    · rename_i e l hdk hsk
      split at hR
      · rename_i te hte
        split at hR
        · rename_i htk
          cases hR
          obtain ⟨_, q1⟩ := hob
          obtain ⟨x3, x4⟩ := x2 q1
          rw [hdk] at hd; rw [hsk] at hs
          have he := (hT _ _ hte).und
          rw [htk] at he
          have hrun := run_bytes_of_string (P := P) w src dst e ⟨l.toArray⟩ hs hd he
          have hsz : (ByteArray.mk l.toArray).size = l.length := by simp [ByteArray.size]
          rw [hsz] at hrun
          have hl : l.length ≤ LIM := x4
          have hge := grownCap_ge w l.length 0 e
          have hcm := grownCap_le_maxLen w l.length 0 e (by unfold maxLen; unfold LIM at hl; omega)
          generalize grownCap w l.length 0 e = cap at *
          have hbs : (bytesRow ⟨l.toArray⟩ cap).size = cap := by simp [bytesRow, hsz]; omega
          have hbl : (bytesRow ⟨l.toArray⟩ cap).toList.take l.length = l.map fun b => Value.int .u8 b.toNat := by
            simp [bytesRow]
          have hbl2 : (bytesPV l).length = l.length := by simp [bytesPV]
          have hown : OwnD (w.drew.alloc (.cells (bytesRow ⟨l.toArray⟩ cap) e ((bytesRow ⟨l.toArray⟩ cap).size, (bytesRow ⟨l.toArray⟩ cap).size + 1))) (.slice (some ⟨w.heap.size, 0, none⟩) (bytesPV l).length cap) (.int .u8) (bytesPV l) [w.heap.size] := by
            refine own_flat rfl (heap_alloc_new w.drew _) (by rw [hbs]; simp [PTy.wd, PTy.leaves]) (by rw [hbl2]; exact hge) hcm (by rw [hbl2]; exact hl) ?_ ?_ (cs := l.map fun b => Value.int .u8 b.toNat) ?_ ?_
            · exact ⟨fun i hi => by omega, fun h => (by cases h)⟩
            · intro e' he' qs; simp only [bytesPV, List.mem_map] at he'; obtain ⟨b, _, rfl⟩ := he'; simp
            · rw [hbl2]; exact lv_bytes _ l
            · simpa using hbl
          rw [hbl2] at hown
          obtain ⟨c1, c2⟩ := add_fresh sat.hp sat.hb sat.fr (fun b hb => drew_alloc_old w _ hb) hown (by simp) (by simp)
          refine ⟨trivial, _, _, _, _, .inl ?_, ⟨fun _ => rfl, fun h hh => upd_lt _ _ _ hh, c1, c2, ?_, trivial, Nat.le_succ _, sat.fr.drewAlloc _⟩, fun h => by simp [stillP, convP, ho] at h, fun _ => (Fr.refl _ _).drewAlloc _⟩
          · simp only [execOp, ho, x3, SV.val, Sem.run_bind, hrun, Result.andThen_ok, Sem.run_pure, upd_eq, gv]
          · exact Nat.lt_succ_self _
        · cases hR
      · cases hR
    · cases hR
  · cases hR
end
end Go.Proofs.YtkofjkjcbljkdaaGreatDoor
end

section
namespace Go.Proofs.YtkofjkjcbljkdaaGreatDoor
variable [LaidG]
set_option linter.unusedVariables false
section
variable {P : Program} {E : Env} {N : Nat} {w0 : World} {X F : List Nat} {S : St} {β : Nat → GV} {ϕ : Nat → List Nat} {a : Act} {w w' : World} {o : Oper} {R : RR} {A : Hp} {B : Nat}
theorem foldl_set (off : Nat) : ∀ (vs : List Value) (j : Nat) (cs : Array Value), off + j + vs.length ≤ cs.size →
    ((vs.zipIdx j).foldl (fun cs (x : Value × Nat) => cs.setIfInBounds (off + x.2) x.1) cs) = (cs.toList.take (off + j) ++ vs ++ cs.toList.drop (off + j + vs.length)).toArray
  | [], j, cs, h => by simp
  | v :: vs, j, cs, h => by
    simp only [List.length_cons] at h
    simp only [List.zipIdx_cons, List.foldl_cons]
    rw [foldl_set off vs (j + 1) _ (by simp; omega)]
    congr 1
    have e1 : (cs.setIfInBounds (off + j) v).toList = cs.toList.set (off + j) v := by simp
    rw [e1]
    have e2 : (cs.toList.set (off + j) v).take (off + (j + 1)) = cs.toList.take (off + j) ++ [v] := by
      rw [show off + (j + 1) = (off + j) + 1 by omega, List.take_succ_eq_append_getElem (by simp; omega)]
      simp [List.take_set_of_le]
    have e3 : (cs.toList.set (off + j) v).drop (off + (j + 1) + vs.length) = cs.toList.drop (off + j + (v :: vs).length) := by
      rw [List.drop_set_of_lt (by omega)]
      congr 1; simp; omega
    rw [e2, e3]; simp
theorem fill_step (place : Nat → Option (Nat × Nat)) (cells : Array Value) (i : Nat) (v : Value) (rest : List (Nat × Value)) {off size : Nat} (hp : place i = some (off, size)) (hs : v.cells.size = size) (hb : off + v.cells.size ≤ cells.size) :
    Instr.fill place cells ((i, v) :: rest) = Instr.fill place (cells.toList.take off ++ v.cells.toList ++ cells.toList.drop (off + v.cells.size)).toArray rest := by
  have h1 : ¬ (v.cells.size ≠ size ∨ off + v.cells.size > cells.size) := by omega
  simp only [Instr.fill, hp]
  have h2 : (decide (v.cells.size ≠ size) || decide (off + v.cells.size > cells.size)) = false := by simp [hs]; omega
  rw [if_neg (by simpa using h2)]
  congr 1
  have := foldl_set off v.cells.toList 0 cells (by simpa using hb)
  simp only [Nat.add_zero, Array.length_toList] at this
  rw [← this, ← Array.foldl_toList, Array.toList_zipIdx]
theorem parts_map (l : List (Nat × Operand)) (f : Operand → Value) : l.map (fun x => (x.1, f x.2)) = (idxs l).zip ((oprs l).map f) := by
  induction l with
  | nil => rfl
  | cons x l ih => obtain ⟨i, y⟩ := x; simp [idxs, oprs, ih]
theorem fillSV_sound {ti : TI} {fs : Array Field} (hT : EnvTy P E) {t : TypeId} (hti : TIok P t ti) (pl : ∀ h, (β h).v.oneCell' = true) : ∀ (is : List Nat) (vs cells cells' : List SV), fillSV ti.flds cells is vs = some cells' → partsOk E ti.flds is vs →
    (∀ (f off ft : Nat), ti.flds[f]? = some (off, ft) → ∀ tf, lk E.ty ft = some tf → (fs.map fun f => (f.offset, (Program.cellsOf P f.type)))[f]? = some (off, tf.sz)) → 
    Instr.fill ((fs.map fun f => (f.offset, (Program.cellsOf P f.type)))[·]?) (SV.vals β cells).toArray (is.zip (SV.vals β vs)) = some (SV.vals β cells').toArray
  | [], [], cells, cells', h, _, _ => by cases h; rfl
  | [], v :: vs, cells, cells', h, _, _ => by cases h
  | i :: is, [], cells, cells', h, _, _ => by cases h
  | i :: is, v :: vs, cells, cells', h, hp, hfs => by
    simp only [fillSV] at h
    split at h
    · rename_i off ft hf
      split at h
      · rename_i hle
        simp only [partsOk, hf] at hp
        obtain ⟨hp1, hp2⟩ := hp
        split at hp1
        · rename_i tf htf
          have h1 := hfs i off ft hf tf htf
          have hc := val_cells pl v
          have hcl : (SV.val β v).cells.size = tf.sz := by rw [hc]; simp [SV.vals_map, hp1]
          simp only [SV.vals, List.zip_cons_cons]
          rw [fill_step _ _ i _ _ h1 hcl (by rw [hcl]; simp [SV.vals_map]; omega)]
          have ih := fillSV_sound hT hti pl is vs _ cells' h hp2 hfs
          rw [← ih]
          congr 1
          rw [hc]
          simp [SV.vals_map, List.map_take, List.map_drop]
        · exact hp1.elim
      · cases h
    · cases h
theorem run_places_all : ∀ (fs : List Field), (∀ f ∈ fs, ∃ i, P.info? f.type = some i) → (fs.mapM fun f => Prod.mk f.offset <$> sizeOf f.type).run P w = .ok (fs.map fun f => (f.offset, P.cellsOf f.type)) w
  | [], _ => rfl
  | f :: fs, h => by
    obtain ⟨i, hi⟩ := h f (by simp)
    have ih := run_places_all fs fun g hg => h g (by simp [hg])
    simp [List.mapM_cons, sizeOf, typeInfo, hi, ih, Program.cellsOf] at ih ⊢
    rw [ih]; rfl
theorem fillSV_mem {flds : List (Nat × Nat)} : ∀ {is : List Nat} {vs cells cells' : List SV}, fillSV flds cells is vs = some cells' → ∀ x ∈ cells', x ∈ cells ∨ ∃ v ∈ vs, x ∈ v.cells
  | [], [], cells, cells', h => by cases h; exact fun x hx => .inl hx
  | [], v :: vs, cells, cells', h => by cases h
  | i :: is, [], cells, cells', h => by cases h
  | i :: is, v :: vs, cells, cells', h => by
    simp only [fillSV] at h
    split at h
    · split at h
      · intro x hx
        rcases fillSV_mem h x hx with h1 | ⟨u, hu, h1⟩
        · simp only [List.mem_append] at h1
          rcases h1 with (h1 | h1) | h1
          · exact .inl (List.mem_of_mem_take h1)
          · exact .inr ⟨v, by simp, h1⟩
          · exact .inl (List.mem_of_mem_drop h1)
        · exact .inr ⟨u, by simp [hu], h1⟩
      · cases h
    · cases h
theorem s_build {t : TypeId} {parts : Array (Nat × Operand)} (hT : EnvTy P E) (ho : o.op = .build t parts) (hR : opRes0 E S true o = some R) (sat : Sat N w0 X F S β ϕ a w) (hob : R.ob) : Snd P w0 X F S β ϕ o a w R := by
  unfold opRes0 at hR
  rw [ho] at hR
  simp only at hR
  split at hR
  · rename_i ti ob vs hti hvs
    split at hR
    · rename_i cs hcs
      rw [zeroSVs_map] at hcs
      cases hR
      obtain ⟨q1, q2, fs, hfd⟩ := hob
      obtain ⟨v1, v2⟩ := evs_sound hvs sat
      replace v1 := v1 rfl (q1 rfl)
      obtain ⟨v3, v4⟩ := v2 rfl (q1 rfl)
      have hTk := hT _ _ hti
      obtain ⟨z, hz, hzc⟩ := run_zero hTk w
      have hz2 : z.cells = (SV.vals β (ti.leaves.map zeroSV)).toArray := by rw [hzc, zero_vals β hTk.lf hTk.nf]
      have hu := run_und hTk w
      rw [hfd] at hu
      have hpl := run_places_all (P := P) (w := w) fs.toList (fun f hf => hTk.fsz fs hfd f (by simpa using hf))
      have hfill := fillSV_sound (fs := fs) hT hTk sat.hp.pl _ _ _ _ hcs q2 (by
        intro f off ft hf tf htf
        obtain ⟨fs', fd, hd', h1, rfl, rfl⟩ := hTk.flds f off ft hf
        rw [hfd] at hd'
        cases hd'
        obtain ⟨i, hi, hs, _⟩ := (hT _ _ htf).info
        simp [h1, Program.cellsOf, hi, hs])
      have hparts : (parts.map fun (i, x) => (i, a.eval x)).toList = (idxs parts.toList).zip (SV.vals β vs) := by
        rw [Array.toList_map, ← v3]
        exact parts_map parts.toList a.eval
      refine snd_pure sat trivial ?_ ?_ ?_
      · simp only [execOp, ho, Instr.build, Sem.run_bind, hz, Result.andThen_ok, hu, Array.mapM_eq_mapM_toList]
        simp only [bind_pure_comp, Sem.run_map, hpl, Result.andThen_ok, hparts, hz2]
        have hg : (fun (x : Nat) => (List.map (fun f => (f.offset, P.cellsOf f.type)) fs.toList).toArray[x]?) = (fun (x : Nat) => (fs.map fun f => (f.offset, P.cellsOf f.type))[x]?) := by
          funext x; simp
        rw [hg, hfill]
        simp [SV.val]
      · show SV.lts _ _
        rw [SV.lts_iff]
        intro x hx
        rcases fillSV_mem hcs x hx with h1 | ⟨u, hu, h1⟩
        · exact SV.lts_iff.1 (zero_lts _ _) x h1
        · exact SV.lts_iff.1 (lts_cells (SV.lts_iff.1 v1 u hu)) x h1
      · show SV.oks _ _
        rw [SV.oks_iff]
        intro x hx
        rcases fillSV_mem hcs x hx with h1 | ⟨u, hu, h1⟩
        · exact SV.oks_iff.1 (zero_oks _ _) x h1
        · exact SV.oks_iff.1 (oks_cells (SV.oks_iff.1 v4 u hu)) x h1
    · cases hR
  · cases hR
end
end Go.Proofs.YtkofjkjcbljkdaaGreatDoor
end

section
namespace Go.Proofs.YtkofjkjcbljkdaaGreatDoor
variable [LaidG]
set_option linter.unusedVariables false
section
variable {P : Program} {E : Env} {N : Nat} {w0 : World} {X F : List Nat} {S : St} {β : Nat → GV} {ϕ : Nat → List Nat} {a : Act} {w w' : World} {o : Oper} {R : RR} {A : Hp} {B : Nat}
theorem pty_wd {P : Program} {t : TypeId} {te : TI} (hTe : TIok P t te) : te.pty.wd = te.sz ∧ te.pty.leaves = te.leaves := by
  unfold TI.pty
  cases hA : te.agg with
  | true => simp [PTy.wd, PTy.leaves, TI.sz]
  | false =>
    obtain ⟨y, hy⟩ := List.length_eq_one_iff.1 (show te.leaves.length = 1 from hTe.one hA)
    have := hTe.lf y (by simp [hy])
    simp [hy, PTy.wd, TI.sz, this]
theorem resB_leaves {T : PTy} {x : SV} {ob : Prop} {p : PV} (hd : dataB T = true) (h : resB A T x = some (ob, p)) : resLs A T.leaves x.cells = some (ob, p.leaves) ∨ resLs A T.leaves x.cells = some (ob ∧ True, p.leaves) := by
  cases T with
  | agg ts =>
    cases x with
    | agg xs =>
      simp only [resB] at h
      split at h
      · rename_i o ps hps
        simp only [Option.some.injEq, Prod.mk.injEq] at h
        obtain ⟨rfl, rfl⟩ := h
        exact .inl hps
      · cases h
    | _ => simp [resB, resL] at h
  | int k => cases x <;> simp only [resB, resL, reduceCtorEq, Option.some.injEq, Prod.mk.injEq] at h <;> obtain ⟨rfl, rfl⟩ := h <;> exact .inr (by simp [PTy.leaves, SV.cells, resLs, resL, PV.leaves])
  | bool => cases x <;> simp only [resB, resL, reduceCtorEq, Option.some.injEq, Prod.mk.injEq] at h <;> obtain ⟨rfl, rfl⟩ := h <;> exact .inr (by simp [PTy.leaves, SV.cells, resLs, resL, PV.leaves])
  | str => cases x <;> simp only [resB, resL, reduceCtorEq, Option.some.injEq, Prod.mk.injEq] at h <;> obtain ⟨rfl, rfl⟩ := h <;> exact .inr (by simp [PTy.leaves, SV.cells, resLs, resL, PV.leaves])
  | list T =>
    have h' : resL A (.list T) x = some (ob, p) := by cases x <;> simpa [resB] using h
    have hx : x.cells = [x] := by cases x <;> first | rfl | (simp [resL] at h')
    have hp : p.leaves = [p] := by
      cases x <;> simp only [resL, reduceCtorEq] at h'
      · split at h'
        · cases h'
        · simp only [Option.some.injEq, Prod.mk.injEq] at h'; obtain ⟨_, rfl⟩ := h'; rfl
        · cases h'
      · simp only [Option.some.injEq, Prod.mk.injEq] at h'; obtain ⟨_, rfl⟩ := h'; rfl
    right
    rw [hx, hp]
    simp [PTy.leaves, resLs, h']
  | _ => simp [dataB, PTy.leaves, leafDs, leafD] at hd
theorem resLs_len : ∀ {ts : List PTy} {xs : List SV} {ob : Prop} {ps : List PV}, resLs A ts xs = some (ob, ps) → xs.length = ts.length ∧ ps.length = ts.length
  | [], [], ob, ps, h => by cases h; exact ⟨rfl, rfl⟩
  | [], x :: xs, ob, ps, h => by cases h
  | t :: ts, [], ob, ps, h => by cases h
  | t :: ts, x :: xs, ob, ps, h => by
    simp only [resLs] at h
    split at h
    · rename_i h2
      cases h
      obtain ⟨h3, h4⟩ := resLs_len h2
      exact ⟨by simp [h3], by simp [h4]⟩
    · cases h
theorem resB_shp {T : PTy} {x : SV} {ob : Prop} {p : PV} (hd : dataB T = true) (h : resB A T x = some (ob, p)) : Shp T p := by
  cases T with
  | agg ts =>
    cases x with
    | agg xs =>
      simp only [resB] at h
      split at h
      · rename_i o ps hps
        simp only [Option.some.injEq, Prod.mk.injEq] at h
        obtain ⟨rfl, rfl⟩ := h
        exact ⟨ps, rfl, (resLs_len hps).2⟩
      · cases h
    | _ => simp [resB, resL] at h
  | int k => cases x <;> simp only [resB, resL, reduceCtorEq, Option.some.injEq, Prod.mk.injEq] at h <;> obtain ⟨rfl, rfl⟩ := h <;> simp [Shp]
  | bool => cases x <;> simp only [resB, resL, reduceCtorEq, Option.some.injEq, Prod.mk.injEq] at h <;> obtain ⟨rfl, rfl⟩ := h <;> simp [Shp]
  | str => cases x <;> simp only [resB, resL, reduceCtorEq, Option.some.injEq, Prod.mk.injEq] at h <;> obtain ⟨rfl, rfl⟩ := h <;> simp [Shp]
  | list T =>
    have h' : resL A (.list T) x = some (ob, p) := by cases x <;> simpa [resB] using h
    cases x <;> simp only [resL, reduceCtorEq] at h'
    · split at h'
      · cases h'
      · simp only [Option.some.injEq, Prod.mk.injEq] at h'; obtain ⟨_, rfl⟩ := h'; simp [Shp]
      · cases h'
    · simp only [Option.some.injEq, Prod.mk.injEq] at h'; obtain ⟨_, rfl⟩ := h'; simp [Shp]
  | _ => simp [dataB, PTy.leaves, leafDs, leafD] at hd
def cellsAll : List SV → List SV
  | [] => []
  | x :: xs => x.cells ++ cellsAll xs
theorem slsOf_append (xs ys : List SV) : slsOf (xs ++ ys) = slsOf xs ++ slsOf ys := by
  induction xs with
  | nil => rfl
  | cons x xs ih => cases x <;> simp [slsOf, ih]
theorem slsAll_cells (xs : List SV) : slsAll xs = slsOf (cellsAll xs) := by
  induction xs with
  | nil => rfl
  | cons x xs ih => simp [slsAll, cellsAll, slsOf_append, ih]
theorem resLs_append : ∀ {ts ts' : List PTy} {xs xs' : List SV} {ob ob' : Prop} {ps ps' : List PV}, resLs A ts xs = some (ob, ps) → resLs A ts' xs' = some (ob', ps') → ∃ ob2, resLs A (ts ++ ts') (xs ++ xs') = some (ob2, ps ++ ps') ∧ (ob → ob' → ob2)
  | [], ts', [], xs', ob, ob', ps, ps', h, h' => by cases h; exact ⟨ob', by simpa using h', fun _ h => h⟩
  | [], ts', x :: xs, xs', ob, ob', ps, ps', h, h' => by cases h
  | t :: ts, ts', [], xs', ob, ob', ps, ps', h, h' => by cases h
  | t :: ts, ts', x :: xs, xs', ob, ob', ps, ps', h, h' => by
    simp only [resLs] at h
    split at h
    · rename_i o1 p o2 qs h1 h2
      cases h
      obtain ⟨ob2, h3, h4⟩ := resLs_append h2 h'
      exact ⟨o1 ∧ ob2, by simp [resLs, h1, h3], fun h5 h6 => ⟨h5.1, h4 h5.2 h6⟩⟩
    · cases h
theorem resEs_sound {T : PTy} (hd : dataB T = true) : ∀ {vs : List SV} {ob : Prop} {ps : List PV}, resEs A T vs = some (ob, ps) → ob →
    ∃ ob2, resLs A (flatT T vs.length) (cellsAll vs) = some (ob2, flatP ps) ∧ ob2 ∧ (∀ e ∈ ps, Shp T e) ∧ ps.length = vs.length ∧ (∀ v ∈ vs, v.cells.length = T.wd)
  | [], ob, ps, h, hob => by cases h; exact ⟨True, rfl, trivial, by simp, rfl, by simp⟩
  | v :: vs, ob, ps, h, hob => by
    simp only [resEs] at h
    split at h
    · rename_i o1 p o2 qs h1 h2
      cases h
      obtain ⟨ob2, b1, b2, b3, b4, b5⟩ := resEs_sound hd h2 hob.2
      have hs := resB_shp hd h1
      have hl : ∃ o3, resLs A T.leaves v.cells = some (o3, p.leaves) ∧ o3 := by
        rcases resB_leaves hd h1 with h3 | h3
        · exact ⟨_, h3, hob.1⟩
        · exact ⟨_, h3, hob.1, trivial⟩
      obtain ⟨o3, h3, h4⟩ := hl
      obtain ⟨ob4, h5, h6⟩ := resLs_append h3 b1
      have e1 : flatT T (v :: vs).length = T.leaves ++ flatT T vs.length := by simp [flatT, List.replicate_succ]
      have e2 : flatP (p :: qs) = p.leaves ++ flatP qs := by simp [flatP]
      refine ⟨ob4, by rw [e1, e2]; exact h5, h6 h4 b2, ?_, by simp [b4], ?_⟩
      · intro e he
        rcases List.mem_cons.1 he with rfl | he
        · exact hs
        · exact b3 e he
      · intro u hu
        rcases List.mem_cons.1 hu with rfl | hu
        · exact (resLs_len h3).1
        · exact b5 u hu
    · cases h
theorem oks_all : ∀ {xs : List SV}, SV.oks β xs → SV.oks β (cellsAll xs)
  | [], _ => trivial
  | x :: xs, h => by
    have h1 := oks_cells h.1
    have h2 := oks_all h.2
    rw [SV.oks_iff] at *
    intro y hy
    rcases List.mem_append.1 hy with hy | hy
    · exact h1 y hy
    · exact h2 y hy
theorem dataB_flatT {T : PTy} (h : dataB T = true) (n : Nat) : leafDs (flatT T n) = true := by
  rw [leafDs_iff]
  intro t ht
  simp only [flatT, List.mem_flatten, List.mem_replicate] at ht
  obtain ⟨l, ⟨_, rfl⟩, hm⟩ := ht
  exact leafDs_iff.1 h t hm
theorem add_taken {n b : Nat} {T : PTy} {es : List PV} {v : Value} {hs : List Nat} {o' : Own} {A A' : Hp} {ϕ' : Nat → List Nat} (tk : Taken w0.heap.size X F A A' β ϕ' w n o' hs) (hw : Fr w0 X w) (hf : ∀ b, b < w.heap.size → w'.heap[b]? = w.heap[b]?) (hb : w.heap.size ≤ b)
    (hdp : o' = .dp → OwnD w' v T es (b :: (hs.map ϕ').flatten)) (hsh : o' = .sh → OwnS w' v T es (b :: (hs.map ϕ').flatten)) :
    Holds w0.heap.size X F ((n, .arr o' T es .no) :: A') (upd β n (gv v)) (upd ϕ' n (b :: (hs.map ϕ').flatten)) w' ∧ Bd (n + 1) (upd β n (gv v)) ((n, .arr o' T es .no) :: A') := by
  have hp := tk.hp.grow hf
  have hsz := hw.size
  have hnot : ∀ i hl, lk A' i = some hl → hl ≠ .dead → ∀ x ∈ ϕ' i, x ≠ b := by
    intro i hl hi hd x hx e
    subst e
    have := tk.hp.inb hi hd x hx
    omega
  have hbn : b ∉ (hs.map ϕ').flatten := fun hm => by have := tk.inb b hm; omega
  rcases tk.how with ⟨rfl, e2, e3, e4, e5⟩ | ⟨rfl, e2, e3, e4⟩
  · have ho := hdp rfl
    refine ⟨hp.add tk.hb (lv_one1 ho.lv) ho ?_ ?_ (List.nodup_cons.2 ⟨hbn, e3⟩) ?_ ?_ trivial (by simp [roots]) (by simp [roots]), hb_add tk.hb trivial⟩
    · intro x hx
      rcases List.mem_cons.1 hx with rfl | hx
      · exact .inr (by omega)
      · exact (e5 x hx).1
    · intro _ x hx
      rcases List.mem_cons.1 hx with rfl | hx
      · exact .inr (by omega)
      · exact (e5 x hx).2
    · intro i hl hi hd x hx hm
      rcases List.mem_cons.1 hm with rfl | hm
      · exact hnot i hl hi hd x hx rfl
      · exact e4 i hl hi hd x hx hm
    · intro i hl hi _ x hx hm
      by_cases hd : hl = .dead
      · subst hd; simp [owned] at hx
      · rcases List.mem_cons.1 hm with rfl | hm
        · exact hnot i hl hi hd x (owned_sub x hx) rfl
        · exact e4 i hl hi hd x (owned_sub x hx) hm
  · have ho := hsh rfl
    refine ⟨hp.add tk.hb (lv_one1 ho.lv) ho ?_ ?_ ?_ ?_ ?_ trivial (by simp [roots]) (by simp [roots]), hb_add tk.hb trivial⟩
    · intro x hx
      simp only [owned, List.take_succ_cons, List.take_zero, List.mem_singleton] at hx
      exact .inr (by omega)
    · intro _ x hx
      rcases List.mem_cons.1 hx with rfl | hx
      · exact .inr (by omega)
      · exact e4 x hx
    · intro b' r e
      cases e
      exact hbn
    · intro i hl hi hd x hx hm
      simp only [owned, List.take_succ_cons, List.take_zero, List.mem_singleton] at hm
      exact hnot i hl hi hd x hx hm
    · intro i hl hi _ x hx hm
      by_cases hd : hl = .dead
      · subst hd; simp [owned] at hx
      · rcases List.mem_cons.1 hm with rfl | hm
        · exact hnot i hl hi hd x (owned_sub x hx) rfl
        · exact e3 i hl hi x hx hm
theorem fill_all (size : Nat) : ∀ (vals : List Value) (k : Nat) (c : List Value), (∀ v ∈ vals, v.cells.size = size) → c.length = (k + vals.length) * size →
    Instr.fill (fun i => some (i * size, size)) c.toArray ((List.range' k vals.length).zip vals) = some (c.take (k * size) ++ vals.flatMap fun v => v.cells.toList).toArray
  | [], k, c, _, hc => by
    simp only [List.length_nil, Nat.add_zero] at hc
    simp [Instr.fill, List.take_of_length_le (Nat.le_of_eq hc)]
  | v :: vals, k, c, hv, hc => by
    have h1 := hv v (by simp)
    simp only [List.length_cons] at hc
    have e : (k + (vals.length + 1)) * size = k * size + size + vals.length * size := by simp only [Nat.add_mul, Nat.one_mul]; omega
    simp only [List.length_cons, List.range'_succ, List.zip_cons_cons]
    rw [fill_step _ _ k v _ rfl h1 (by simp; omega)]
    have hlen : (c.take (k * size) ++ v.cells.toList ++ c.drop (k * size + v.cells.size)).length = (k + 1 + vals.length) * size := by
      simp only [List.length_append, List.length_take, List.length_drop, Array.length_toList, h1]
      have e2 : (k + 1 + vals.length) * size = k * size + size + vals.length * size := by simp only [Nat.add_mul, Nat.one_mul]
      omega
    have ih := fill_all size vals (k + 1) _ (fun u hu => hv u (by simp [hu])) hlen
    simp only [List.toList_toArray] at ih ⊢
    rw [ih]
    congr 1
    have h2 : (k + 1) * size = (c.take (k * size) ++ v.cells.toList).length := by
      simp only [List.length_append, List.length_take, Array.length_toList, h1, Nat.add_mul, Nat.one_mul]; omega
    rw [h2, List.take_left]
    simp
theorem s_buildSlice {t : TypeId} {len : Nat} {parts : Array (Nat × Operand)} (hT : EnvTy P E) (ho : o.op = .buildSlice t len parts) (hR : opRes0 E S true o = some R) (sat : Sat N w0 X F S β ϕ a w) (hob : R.ob) : Snd P w0 X F S β ϕ o a w R := by
  unfold opRes0 at hR
  rw [ho] at hR
  simp only at hR
  split at hR
  · rename_i ti ob vs hti hvs
    split at hR
    · rename_i te hte
      split at hR
      · rename_i ob' ps hres
        cases hR
        obtain ⟨_, q2, q3, q4, q5, q6, q7, q8⟩ := hob
        obtain ⟨v1, v2⟩ := evs_sound hvs sat
        replace v1 := v1 rfl q2
        obtain ⟨v3, v4⟩ := v2 rfl q2
        have hTk := hT _ _ hti
        have hTe := hT _ _ hte
        have hu := run_und hTk w
        rw [q6] at hu
        have hsz := run_size hTe w
        obtain ⟨z, hz, hzc⟩ := run_zero hTe w
        obtain ⟨ob2, r1, r2, r3, r4, r5⟩ := resEs_sound q7 hres q3
        have hwd : te.pty.wd = te.sz := (pty_wd hTe).1
        have hvl : vs.length = len := by
          have h1 : (idxs parts.toList).length = parts.toList.length := by
            induction parts.toList with
            | nil => rfl
            | cons x l ih => obtain ⟨i, y⟩ := x; simp [idxs, ih]
          have h2 : ((oprs parts.toList).map a.eval).length = vs.length := by rw [v3]; simp [SV.vals_map]
          have h3 : (oprs parts.toList).length = parts.toList.length := by
            clear h2 h1 hvs v3 q5 q4 hres
            induction parts.toList with
            | nil => rfl
            | cons x l ih => obtain ⟨i, y⟩ := x; simp [oprs, ih]
          have h4 := congrArg List.length q4
          simp at h4 h2
          omega
        have hparts : (parts.map fun (i, x) => (i, a.eval x)).toList = (List.range' 0 (SV.vals β vs).length).zip (SV.vals β vs) := by
          rw [Array.toList_map, ← v3]
          have := parts_map parts.toList a.eval
          rw [this, q4, List.range_eq_range']
          congr 2
          have : ((oprs parts.toList).map a.eval).length = vs.length := by rw [v3]; simp [SV.vals_map]
          rw [this, hvl]
        have hcells : ∀ v ∈ SV.vals β vs, v.cells.size = te.sz := by
          intro v hv
          rw [SV.vals_map, List.mem_map] at hv
          obtain ⟨x, hx, rfl⟩ := hv
          rw [val_cells sat.hp.pl x]
          simp [SV.vals_map, r5 x hx, hwd]
        have hflat : ((SV.vals β vs).flatMap fun v => v.cells.toList) = SV.vals β (cellsAll vs) := by
          rw [SV.vals_map, List.flatMap_map]
          clear hres hvs v1 v2 v3 v4 r1 r3 r4 r5 hvl hparts hcells q8
          induction vs with
          | nil => rfl
          | cons x xs ih =>
            simp only [List.flatMap_cons, cellsAll, SV.vals_map, List.map_append] at ih ⊢
            rw [ih, val_cells sat.hp.pl x]; simp [SV.vals_map]
        have hvl2 : (SV.vals β vs).length = len := by simp [SV.vals_map, hvl]
        have hfill : ∀ zz : Array Value, Instr.fill (fun i => some (i * te.sz, te.sz)) ((Array.range (len * te.sz)).map (fun i => zz[i % zz.size]!)) ((List.range' 0 (SV.vals β vs).length).zip (SV.vals β vs)) = some (SV.vals β (cellsAll vs)).toArray := by
          intro zz
          have harr : (Array.range (len * te.sz)).map (fun i => zz[i % zz.size]!) = ((List.range (len * te.sz)).map (fun i => zz[i % zz.size]!)).toArray := by
            apply Array.ext'; simp
          have := fill_all te.sz (SV.vals β vs) 0 ((List.range (len * te.sz)).map (fun i => zz[i % zz.size]!)) hcells (by simp [hvl2])
          simp only [Nat.zero_mul, List.take_zero, List.nil_append, hflat] at this
          rw [harr]; exact this
        have hclen : (SV.vals β (cellsAll vs)).length = len * te.sz := by
          rw [SV.vals_map, List.length_map, (resLs_len r1).1, flatT_len, hvl, hwd]
        have hpos := hTe.pos
        have hlen : len ≤ 16777216 := Nat.le_trans (Nat.le_mul_of_pos_right _ hpos) q5
        have hpl : ps.length = len := by rw [r4, hvl]
        obtain ⟨ϕ1, tk⟩ := takeIn_sound (o := .dp) (hs := slsAll vs) sat.hp sat.hb (.inl rfl) q8
        have hok := oks_all v4
        have hroom : Room (w.alloc (.cells (SV.vals β (cellsAll vs)).toArray ti.el)) (.slice (some ⟨w.heap.size, 0, none⟩) len len) te.pty.wd te.pty.u8 ps.length w.heap.size (SV.vals β (cellsAll vs)) := by
          refine ⟨⟨0, len, _, ti.el, (0, 0), by rw [hpl], heap_alloc_new w _, by simp [hclen, hwd], Nat.le_of_eq hpl, by unfold maxLen; omega, NoFz.none _ _, by simp⟩, by rw [hclen, hpl, hwd], by rw [hpl]; unfold LIM; omega⟩
        have hfr : ∀ k, k < w.heap.size → (w.alloc (.cells (SV.vals β (cellsAll vs)).toArray ti.el)).heap[k]? = w.heap[k]? := fun k hk => alloc_old w _ hk
        have hsls : ((slsAll vs).map ϕ1).flatten = (fsOf ϕ1 (cellsAll vs)).flatten := by rw [fsOf_flat, slsAll_cells]
        obtain ⟨c1, c2⟩ := add_taken (n := S.n) (b := w.heap.size) (T := te.pty) (es := ps) (v := .slice (some ⟨w.heap.size, 0, none⟩) len len) tk sat.fr hfr (Nat.le_refl _)
          (fun hd => by
            rcases tk.how with ⟨_, e2, _⟩ | ⟨e1, _⟩
            · have hLD := resLs_own r1 r2 hok (ϕ' := ϕ1) (by rw [← slsAll_cells]; exact e2)
              have hLo : Lo w (flatT te.pty vs.length) (flatP ps) (SV.vals β (cellsAll vs)) ((slsAll vs).map ϕ1).flatten := ⟨_, hsls, loD_lo hLD (dataB_flatT q7 _)⟩
              refine .inr ⟨w.heap.size, _, _, rfl, hroom, r3, ?_⟩
              rw [r4]
              exact hLo.frame fun k hk => hfr k (tk.inb k hk)
            · rw [hd] at e1; cases e1)
          (fun hd => by
            rcases tk.how with ⟨e1, _⟩ | ⟨_, e2, _⟩
            · rw [hd] at e1; cases e1
            · have hLv := resLs_lv r1 r2 hok (ϕ' := ϕ1) (by rw [← slsAll_cells]; exact e2)
              rw [← hsls] at hLv
              refine .inr ⟨w.heap.size, _, _, rfl, hroom, r3, ?_⟩
              rw [r4]
              exact hLv.frame fun k hk => hfr k (tk.inb k hk))
        refine ⟨trivial, _, _, _, _, .inl ?_, ⟨fun _ => rfl, fun h hh => upd_lt _ _ _ hh, c1, c2, Nat.lt_succ_self _, trivial, Nat.le_succ _, sat.fr.alloc _⟩, fun h => by simp [stillP, convP, ho] at h, fun _ => (Fr.refl _ _).alloc _⟩
        have hnot : ¬ (len * te.sz > 2 ^ 24) := by omega
        simp only [execOp, ho, Instr.buildSlice, Sem.run_bind, hu, Result.andThen_ok, hsz, if_neg hnot, hparts, SV.val, upd_eq, gv]
        by_cases h0 : len * te.sz = 0
        · simp only [if_pos h0, Sem.run_bind, Sem.run_pure, Result.andThen_ok, hfill, newRow, run_newObj]
          rfl
        · simp only [if_neg h0, Sem.run_bind, Sem.run_pure, Result.andThen_ok, hz, hfill, newRow, run_newObj]
          rfl
      · cases hR
    · cases hR
  · cases hR
end
end Go.Proofs.YtkofjkjcbljkdaaGreatDoor
end

section
namespace Go.Proofs.YtkofjkjcbljkdaaGreatDoor
variable [LaidG]
set_option linter.unusedVariables false
section
variable {P : Program} {E : Env} {N : Nat} {w0 : World} {X F : List Nat} {S : St} {β : Nat → GV} {ϕ : Nat → List Nat} {a : Act} {w w' : World} {o : Oper} {R : RR} {A : Hp} {B : Nat}
theorem wrap_in {k : IntKind} {n : Int} (h : inR k n) : k.wrap n = n := by
  unfold inR IntKind.min IntKind.max at h
  unfold IntKind.wrap
  cases k <;> simp [IntKind.signed, IntKind.bits] at h ⊢ <;> (try split) <;> omega
theorem zero_lo (w : World) : ∀ {ts : List PTy}, (∀ t ∈ ts, leafD t = true) → ∃ fs, fs.flatten = [] ∧ LoP (OwnF w) ts (ts.map zeroLf) (ts.map zeroV) fs
  | [], _ => ⟨[], rfl, .nil⟩
  | t :: ts, h => by
    obtain ⟨fs, h2, h3⟩ := zero_lo w (ts := ts) fun x hx => h x (by simp [hx])
    have h1 := h t (by simp)
    refine ⟨[] :: fs, by simpa using h2, ?_⟩
    cases t with
    | int k => exact .int (by cases k <;> decide) h3
    | bool => exact .bool h3
    | str => exact .str (Nat.zero_le _) h3
    | list T => exact .list ⟨h1, .inl ⟨rfl, rfl, none, rfl⟩⟩ h3
    | _ => simp [leafD] at h1
theorem zero_shp {T : PTy} (h : T.leaves = [T] ∨ ∃ ts, T = .agg ts) : Shp T (zeroPV T) ∧ (zeroPV T).leaves = T.leaves.map zeroLf := by
  cases T with
  | agg ts => exact ⟨⟨_, rfl, by simp [zeroLfs_map]⟩, by simp [zeroPV, PV.leaves, PTy.leaves, zeroLfs_map]⟩
  | _ => exact ⟨by simp [Shp, zeroPV, zeroLf, PV.d], rfl⟩
theorem zero_rep_lo (w : World) {T : PTy} (h : dataB T = true) (hs : T.leaves = [T] ∨ ∃ ts, T = .agg ts) : ∀ n, ∃ fs, fs.flatten = [] ∧ LoP (OwnF w) (flatT T n) (flatP (List.replicate n (zeroPV T))) (List.replicate n (T.leaves.map zeroV)).flatten fs
  | 0 => ⟨[], rfl, .nil⟩
  | n + 1 => by
    obtain ⟨fs, h2, h3⟩ := zero_rep_lo w h hs n
    obtain ⟨fs1, h4, h5⟩ := zero_lo w (ts := T.leaves) (leafDs_iff.1 h)
    have e1 : flatT T (n + 1) = T.leaves ++ flatT T n := by simp [flatT, List.replicate_succ]
    have e2 : flatP (List.replicate (n + 1) (zeroPV T)) = T.leaves.map zeroLf ++ flatP (List.replicate n (zeroPV T)) := by
      simp [flatP, List.replicate_succ, (zero_shp hs).2]
    rw [e1, e2, List.replicate_succ, List.flatten_cons]
    exact ⟨fs1 ++ fs, by simp [h2, h4], h5.append h3⟩
theorem range_rep (zl : List Value) (f : Nat → Value) (hz : 0 < zl.length) (hf : ∀ i, f i = zl[i % zl.length]'(Nat.mod_lt _ hz)) : ∀ n, (List.range (n * zl.length)).map f = (List.replicate n zl).flatten
  | 0 => by simp
  | n + 1 => by
    have ih := range_rep zl f hz hf n
    have e : (n + 1) * zl.length = n * zl.length + zl.length := by simp [Nat.add_mul]
    rw [e, List.range_add, List.map_append, ih, List.map_map]
    have h2 : (List.range zl.length).map (f ∘ (n * zl.length + ·)) = zl := by
      apply List.ext_getElem
      · simp
      · intro i h1 h2
        simp only [List.getElem_map, List.getElem_range, Function.comp_apply, hf]
        congr 1
        rw [Nat.mul_comm, Nat.mul_add_mod, Nat.mod_eq_of_lt h2]
    rw [h2, List.replicate_succ', List.flatten_append]
    simp
theorem s_makeSlice {t : TypeId} {l c : Operand} (hT : EnvTy P E) (ho : o.op = .makeSlice t l c) (hR : opRes0 E S true o = some R) (sat : Sat N w0 X F S β ϕ a w) (hob : R.ob) : Snd P w0 X F S β ϕ o a w R := by
  unfold opRes0 at hR
  rw [ho] at hR
  simp only at hR
  split at hR
  · rename_i g' n g'' m ti hl hc hti
    split at hR
    · rename_i te hte
      cases hR
      obtain ⟨_, q1, q2, q3, q4, q5, q6, q7, q8⟩ := hob
      obtain ⟨_, l2⟩ := ev_sound hl sat
      obtain ⟨_, c2⟩ := ev_sound hc sat
      obtain ⟨l3, l4⟩ := l2 q1
      obtain ⟨c3, c4⟩ := c2 q2
      have hTk := hT _ _ hti
      have hTe := hT _ _ hte
      have hu := run_und hTk w
      rw [q7] at hu
      obtain ⟨i, hi, his, hib, z, hz, hzc⟩ := hTe.info
      have hlim : (LIM : Int) = 140737488355328 := rfl
      obtain ⟨N', rfl⟩ := Int.eq_ofNat_of_zero_le q3
      obtain ⟨M, rfl⟩ := Int.eq_ofNat_of_zero_le (show 0 ≤ m by omega)
      have hwn : IntKind.i64.wrap (N' : Int) = N' := wrap_in l4
      have hwm : IntKind.i64.wrap (M : Int) = M := wrap_in c4
      have hpos := hTe.pos
      have hzsz : z.cells.size = te.sz := by rw [hzc]; simp [TI.sz]
      obtain ⟨hwd, hlv⟩ := pty_wd hTe
      have hs : te.pty.leaves = [te.pty] ∨ ∃ ts, te.pty = .agg ts := by
        cases hA : te.agg with
        | true => exact .inr ⟨te.leaves, by simp [TI.pty, hA]⟩
        | false =>
          obtain ⟨y, hy⟩ := List.length_eq_one_iff.1 (show te.leaves.length = 1 from hTe.one hA)
          left; rw [hlv, hy]; simp [TI.pty, hA, hy]
      have hcells : ∀ K, ((Array.range (K * te.sz)).map (fun x => z.cells[x % z.cells.size]!)).toList = (List.replicate K (te.pty.leaves.map zeroV)).flatten := by
        intro K
        have hzl : (te.leaves.map zeroV).length = te.sz := by simp [TI.sz]
        have := range_rep (te.leaves.map zeroV) (fun x => z.cells[x % z.cells.size]!) (by rw [hzl]; exact hpos) (by
          intro i
          rw [hzc]
          have hlt : i % (te.leaves.map zeroV).toArray.size < (te.leaves.map zeroV).toArray.size := Nat.mod_lt _ (by simp; rw [← hzl] at hpos; simpa using hpos)
          rw [getElem!_pos (te.leaves.map zeroV).toArray _ hlt]
          simp) K
        rw [hzl] at this
        rw [Array.toList_map, Array.toList_range, this, hlv]
      have hrlen : ∀ K, ((List.replicate K (te.pty.leaves.map zeroV)).flatten).length = K * te.sz := by
        intro K
        have := congrArg List.length (hcells K)
        simpa using this.symm
      have hMN : N' ≤ M := by omega
      have hM : M ≤ LIM := by omega
      have hown : OwnD (w.alloc (.cells ((Array.range (M * te.sz)).map (fun x => z.cells[x % z.cells.size]!)) ti.el)) (.slice (some ⟨w.heap.size, 0, none⟩) N' M) te.pty (List.replicate N' (zeroPV te.pty)) [w.heap.size] := by
        have hcl : (List.replicate N' (te.pty.leaves.map zeroV)).flatten.length = N' * te.sz := hrlen N'
        refine .inr ⟨w.heap.size, [], (List.replicate N' (te.pty.leaves.map zeroV)).flatten, rfl, ⟨⟨0, M, _, ti.el, (0, 0), by simp, heap_alloc_new w _, by simp [hwd], by simpa using hMN, by unfold maxLen; unfold LIM at hM; omega, NoFz.none _ _, ?_⟩, by rw [hcl, hwd]; simp, by simp; omega⟩, ?_, ?_⟩
        · rw [List.drop_zero, hcells M]
          have : M = N' + (M - N') := by omega
          rw [this, ← List.replicate_append_replicate, List.flatten_append, List.take_left]
        · intro e he
          rw [List.eq_of_mem_replicate he]
          exact (zero_shp hs).1
        · obtain ⟨fs, h2, h3⟩ := zero_rep_lo (w.alloc (.cells ((Array.range (M * te.sz)).map (fun x => z.cells[x % z.cells.size]!)) ti.el)) q8 hs N'
          exact ⟨fs, h2.symm, by simpa using h3⟩
      obtain ⟨d1, d2⟩ := add_fresh sat.hp sat.hb sat.fr (fun b hb => alloc_old w _ hb) hown (by simp) (by simp)
      refine ⟨trivial, _, _, _, _, .inl ?_, ⟨fun _ => rfl, fun h hh => upd_lt _ _ _ hh, d1, d2, Nat.lt_succ_self _, trivial, Nat.le_succ _, sat.fr.alloc _⟩, fun h => by simp [stillP, convP, ho] at h, fun _ => (Fr.refl _ _).alloc _⟩
      have hb : (te.bytes : Int) * M ≤ 140737488355328 := by rw [← hlim]; exact q5
      have ht1 : (decide ((M : Int) < 0) || decide ((te.bytes : Int) * M > 2 ^ 48)) = false := by simp; omega
      have ht2 : ((decide ((M : Int) < 0) || decide ((te.bytes : Int) * (M : Int) > 2 ^ 48)) || decide ((N' : Int) < 0) || decide ((N' : Int) > (M : Int))) = false := by
        rw [ht1]; simp; omega
      simp only [execOp, ho, Instr.makeSlice, Sem.run_bind, hu, Result.andThen_ok, l3, c3, SV.val, asInt, asIntOf, Sem.run_pure, hwn, hwm, typeInfo, run_program, hi, hib, upd_eq, gv]
      rw [if_neg (by rw [Bool.not_eq_true]; exact ht2)]
      simp only [Sem.run_bind, run_askRoom, Result.andThen_ok, sizeOf, typeInfo, run_program, hi, his, Sem.run_pure, Int.toNat_natCast]
      by_cases h0 : M * te.sz = 0
      · rw [if_pos h0]
        simp only [Sem.run_bind, Sem.run_pure, Result.andThen_ok, newRow, run_newObj]
        have e : ∀ f : Nat → Value, Array.map f (Array.range 0) = #[] := fun f => by simp
        simp only [h0, e]
        rfl
      · simp only [if_neg h0, Sem.run_bind, Sem.run_pure, Result.andThen_ok, zeroValue, typeInfo, run_program, hi, hz, newRow, run_newObj]
        rfl
    · cases hR
  · cases hR
theorem evO_sound {x : Option Operand} {ob : Prop} {n : Option Int} (h : evO S true x = some (ob, n)) (hob : ob) (sat : Sat N w0 X F S β ϕ a w) :
    (x = none ∧ n = none) ∨ ∃ y k m, x = some y ∧ n = some m ∧ a.eval y = .int k m := by
  cases x with
  | none => simp [evO] at h; exact .inl ⟨rfl, h.2.symm⟩
  | some y =>
    simp only [evO] at h
    split at h
    · rename_i g' k m hy
      simp only [Option.some.injEq, Prod.mk.injEq] at h
      obtain ⟨rfl, rfl⟩ := h
      obtain ⟨_, h2⟩ := ev_sound hy sat
      exact .inr ⟨y, k, m, rfl, rfl, (h2 (hob rfl)).1⟩
    · cases h
theorem run_sliceBound {y : Nat} {code : BoundsCode} {k : IntKind} {n : Int} (h0 : 0 ≤ n) (h1 : n ≤ y) : (Instr.sliceBound (.int k n) y code).run P w = .ok n.toNat w := by
  simp [Instr.sliceBound, asIntOf, h0, h1]
theorem run_sliceBounds {b : Bool} {len cap : Nat} {lo hi : Option Operand} {ln hn : Option Int} {f : Operand → Value} (hl : (lo = none ∧ ln = none) ∨ ∃ y k m, lo = some y ∧ ln = some m ∧ f y = .int k m)
    (hh : (hi = none ∧ hn = none) ∨ ∃ y k m, hi = some y ∧ hn = some m ∧ f y = .int k m) (hc : len ≤ cap) (h0 : 0 ≤ ln.getD 0) (h1 : ln.getD 0 ≤ hn.getD len) (h2 : hn.getD len ≤ len) :
    (Instr.sliceBounds b len cap (lo.map f) (hi.map f) none).run P w = .ok ((ln.getD 0).toNat, (hn.getD len).toNat, cap) w := by
  have hhi : (hn.getD (len : Int)).toNat ≤ len := by omega
  rcases hl with ⟨rfl, rfl⟩ | ⟨y, k, m, rfl, rfl, hy⟩ <;> rcases hh with ⟨rfl, rfl⟩ | ⟨y', k', m', rfl, rfl, hy'⟩ <;> simp only [Option.getD_none, Option.getD_some] at *
  · simp [Instr.sliceBounds]
  · have := run_sliceBound (P := P) (w := w) (code := if b then .sliceAcap else .sliceAlen) (k := k') (y := cap) (n := m') (by omega) (by omega)
    simp only [Instr.sliceBounds, Option.map_none, Option.map_some, hy', Sem.run_bind, Sem.run_pure, Result.andThen_ok, this]
    rfl
  · have := run_sliceBound (P := P) (w := w) (code := .sliceB) (k := k) (y := len) (n := m) (by omega) (by omega)
    simp only [Instr.sliceBounds, Option.map_none, Option.map_some, hy, Sem.run_bind, Sem.run_pure, Result.andThen_ok, Option.isSome_none, Bool.false_eq_true, if_false, this]
    simp
  · have t1 := run_sliceBound (P := P) (w := w) (code := if b then .sliceAcap else .sliceAlen) (k := k') (y := cap) (n := m') (by omega) (by omega)
    have t2 := run_sliceBound (P := P) (w := w) (code := .sliceB) (k := k) (y := m'.toNat) (n := m) (by omega) (by omega)
    simp only [Instr.sliceBounds, Option.map_some, hy, hy', Sem.run_bind, Sem.run_pure, Result.andThen_ok, Option.isSome_none, Bool.false_eq_true, if_false, t1, t2]
theorem sub_lv {v : Value} {T : PTy} {es : List PV} {f : List Nat} {l h cap : Nat} {ad : Option Addr} (hL : Lv w [.list T] [.list es] [v] f) (hv : v = .slice ad es.length cap) (hlh : l ≤ h) (hh : h ≤ es.length) :
    ∃ f', Lv w [.list T] [.list ((es.drop l).take (h - l))] [.slice (if cap = l then ad else ad.map fun x => x.add (l * T.wd)) (h - l) (cap - l)] f' ∧ ∀ b ∈ f', b ∈ f := by
  by_cases h0 : h = l
  · subst h0
    simp only [Nat.sub_self, List.take_zero]
    exact ⟨[], .empty .nil, by simp⟩
  · cases hL with
    | empty hn => simp at hh; omega
    | @list T es b o cap' c t fr cs f1 Ts ps vs fp hb hs hl hc hd hn =>
      obtain ⟨_, rfl⟩ := hn.nil_inv
      simp only [Value.slice.injEq, true_and] at hv
      obtain ⟨rfl, rfl⟩ := hv
      have hcl : cap' ≠ l := by omega
      have hsub : ((es.drop l).take (h - l)).length = h - l := by simp; omega
      have e1 : es = es.take l ++ ((es.drop l).take (h - l) ++ es.drop h) := by
        have : es.drop h = (es.drop l).drop (h - l) := by rw [List.drop_drop]; congr 1; omega
        rw [this, List.take_append_drop, List.take_append_drop]
      have e2 : flatT T es.length = flatT T l ++ (flatT T (h - l) ++ flatT T (es.length - h)) := by
        rw [← flatT_add, ← flatT_add]; congr 1; omega
      have hP : flatP es = flatP (es.take l) ++ (flatP ((es.drop l).take (h - l)) ++ flatP (es.drop h)) := by
        conv => lhs; rw [e1]
        rw [flatP_append, flatP_append]
      have l1 : (flatP (es.take l)).length = l * T.wd := by
        rw [flatP_len fun x hx => hs x (List.mem_of_mem_take hx)]; simp; rw [Nat.min_eq_left (by omega)]
      have l2 : (flatP ((es.drop l).take (h - l))).length = (h - l) * T.wd := by
        rw [flatP_len fun x hx => hs x (List.mem_of_mem_drop (List.mem_of_mem_take hx)), hsub]
      obtain ⟨v1, v23, g1, g23, rfl, rfl, q1, q23⟩ := hc.split e2 hP (by rw [flatT_len, l1])
      obtain ⟨v2, v3, g2, g3, rfl, rfl, q2, q3⟩ := q23.split rfl rfl (by rw [flatT_len, l2])
      have k1 : v1.length = l * T.wd := by rw [q1.lens.2, l1]
      refine ⟨b :: g2, ?_, by intro x hx; simp at hx ⊢; rcases hx with rfl | hx; exact .inl rfl; exact .inr (.inr (.inl hx))⟩
      rw [if_neg hcl]
      simp only [Option.map_some, addr_add]
      have hcells : (c.toList.drop (o + l * T.wd)).take v2.length = v2 := by
        have h3 : ((c.toList.drop o).take (v1 ++ (v2 ++ v3)).length).drop (l * T.wd) = v2 ++ v3 := by
          rw [hd, ← k1]; simp
        rw [List.drop_take, List.drop_drop] at h3
        have h4 := congrArg (List.take v2.length) h3
        rw [List.take_take] at h4
        have h5 : min v2.length ((v1 ++ (v2 ++ v3)).length - l * T.wd) = v2.length := by
          simp only [List.length_append]; omega
        rw [h5] at h4
        simpa using h4
      have := Lv.list (w := w) (T := T) (es := (es.drop l).take (h - l)) (cap := cap' - l) hb (fun e he => hs e (List.mem_of_mem_drop (List.mem_of_mem_take he))) ⟨by rw [hsub]; have := hl.1; omega, by rw [hsub]; have := hl.2; omega⟩ (by rw [hsub]; exact q2) hcells .nil
      rw [hsub] at this
      simpa using this
theorem s_slice {t : TypeId} {x : Operand} {lo hi mx : Option Operand} (hT : EnvTy P E) (ho : o.op = .slice t x lo hi mx) (hR : opRes0 E S true o = some R) (sat : Sat N w0 X F S β ϕ a w) (hob : R.ob) : Snd P w0 X F S β ϕ o a w R := by
  unfold opRes0 at hR
  rw [ho] at hR
  simp only at hR
  split at hR
  · rename_i g' v o1 ln o2 hn hx hlo hhi
    obtain ⟨x1, x2⟩ := ev_sound hx sat
    unfold sliceRes at hR
    split at hR
    · rename_i l ti hti
      cases hR
      obtain ⟨⟨q1, q2, q3⟩, q4, q5, q6, q7⟩ := hob rfl
      replace x1 := x1 (q1 rfl)
      obtain ⟨x3, x4⟩ := x2 (q1 rfl)
      have hl := evO_sound hlo q2 sat
      have hh := evO_sound hhi q3 sat
      have hu := run_und (hT _ _ hti) w
      rw [q7] at hu
      have hsz : (ByteArray.mk l.toArray).size = l.length := by simp [ByteArray.size]
      have hb := run_sliceBounds (P := P) (w := w) (b := false) (f := a.eval) hl hh (Nat.le_refl _) q4 q5 q6
      refine snd_pure sat trivial ?_ trivial ?_
      · simp only [execOp, ho, x3, SV.val, Instr.sliceAt, Instr.slice, Sem.run_bind, hu, Result.andThen_ok, Option.map_none, hsz, hb]
        simp only [Option.isSome_none, Bool.false_eq_true, if_false, Sem.run_bind, Sem.run_pure, Result.andThen_ok, hb]
        congr 3
        apply ByteArray.ext
        simp
      · show (List.take _ _).length ≤ LIM
        simp only [List.length_take, List.length_drop]
        have : l.length ≤ LIM := x4
        omega
    · rename_i i ti hti
      split at hR
      · cases hR
      · rename_i ow T es p te hnc hl hte
        have hnc : ∀ k, ow ≠ .cs k := fun k e => hnc k (by rw [e])
        cases hR
        obtain ⟨_, ⟨q1, q2, q3⟩, q4, q5, q6, q7, q8⟩ := hob
        obtain ⟨x3, x4⟩ := x2 (q1 rfl)
        have hL := hl_lv sat hl hnc
        obtain ⟨hle, cap, ad, hv, hcap⟩ := lv_len hL
        have hll := evO_sound hlo q2 sat
        have hhh := evO_sound hhi q3 sat
        have hu := run_und (hT _ _ hti) w
        rw [q7] at hu
        have hsz := run_size (hT _ _ hte) w
        have hb := run_sliceBounds (P := P) (w := w) (b := true) (f := a.eval) hll hhh hcap q4 q5 q6
        generalize hal : (ln.getD 0).toNat = l at *
        generalize hah : (hn.getD (es.length : Int)).toNat = h at *
        have hlh : l ≤ h ∧ h ≤ es.length := by omega
        obtain ⟨f', hL', hsub⟩ := sub_lv (l := l) (h := h) hL hv hlh.1 hlh.2
        obtain ⟨rs, hrs⟩ : ∃ rs, viewA ow i = .vw rs := by
          cases ow <;> first | exact ⟨_, rfl⟩ | exact absurd rfl (hnc _)
        have hview : ViewOk w0.heap.size F S.A ϕ S.n f' rs := by
          refine viewOk_of sat.hp sat.hb hl trivial hsub ?_ ?_ ?_ (by simp)
          · cases ow <;> simp only [viewA, Own.vw.injEq] at hrs <;> subst hrs <;> simp [roots]
          · cases ow <;> simp only [viewA, Own.vw.injEq] at hrs <;> subst hrs <;> simp [roots] <;> exact fun r hr => .inr hr
          · cases ow with
            | vw rs' => right; simp [owned]
            | _ => left; simp only [viewA, Own.vw.injEq] at hrs; subst hrs; simp
        have hsl : ((es.drop l).take (h - l)).length = h - l := by simp; omega
        have hpth : PthOk S.A β w (gv (.slice (if cap = l then ad else ad.map fun x => x.add (l * T.wd)) (h - l) (cap - l))) rs T ((es.drop l).take (h - l)) (pathA ow i l) := by
          have main : ow = .dp ∨ ow = .sh → PthOk S.A β w (gv (.slice (if cap = l then ad else ad.map fun x => x.add (l * T.wd)) (h - l) (cap - l))) rs T ((es.drop l).take (h - l)) (.sub i l) := by
            intro how
            refine ⟨?_, es, p, ?_, by rw [hsl]; omega, by rw [hsl], ad, es.length, cap, hv, by rw [hsl]; rfl⟩
            · rcases how with rfl | rfl <;> (simp only [viewA, Own.vw.injEq] at hrs; subst hrs; simp)
            · rcases how with rfl | rfl
              · exact .inl hl
              · exact .inr hl
          cases ow with
          | dp => exact main (.inl rfl)
          | sh => exact main (.inr rfl)
          | _ => trivial
        obtain ⟨c1, c2⟩ := add_view (n := S.n) sat.hp sat.hb hL' hview hpth
        rw [hrs]
        refine ⟨hle, _, w, _, _, .inl ?_, ⟨fun _ => rfl, fun k hk => upd_lt _ _ _ hk, c1, c2, Nat.lt_succ_self _, trivial, Nat.le_succ _, sat.fr⟩, fun h => by simp [stillP, convP, ho] at h, fun _ => Fr.refl _ _⟩
        simp only [SV.val, hv] at x3
        simp only [execOp, ho, x3, SV.val, upd_eq, gv, Instr.sliceAt, Instr.slice, Sem.run_bind, hu, Result.andThen_ok, Option.map_none, hb, hsz, Sem.run_pure, q8]
      · cases hR
    · cases hR
  · cases hR
end
end Go.Proofs.YtkofjkjcbljkdaaGreatDoor
end

section
namespace Go.Proofs.YtkofjkjcbljkdaaGreatDoor
variable [LaidG]
set_option linter.unusedVariables false
section
variable {P : Program} {E : Env} {N : Nat} {w0 : World} {X F : List Nat} {S : St} {β : Nat → GV} {ϕ : Nat → List Nat} {a : Act} {w w' : World} {o : Oper} {R : RR} {A : Hp} {B : Nat}
theorem lv_one : ∀ {Ts : List PTy} {ps : List PV} {vs : List Value} {f : List Nat}, Lv w Ts ps vs f → ∀ v ∈ vs, v.oneCell' = true := by
  intro Ts ps vs f h
  induction h with
  | nil => simp
  | _ => rename_i ih; intro v hv; rcases List.mem_cons.1 hv with rfl | hv <;> first | rfl | exact ih v hv
def RoomO (w : World) (v : Value) (wd : Nat) (mk : Bool) (n : Nat) (cs : List Value) (b : Option Nat) : Prop :=
  (n = 0 ∧ cs = [] ∧ b = none ∧ ∃ a, v = .slice a 0 0) ∨ ∃ b', b = some b' ∧ Room w v wd mk n b' cs
theorem run_append_raw {t u e ty : TypeId} {tu te : TI} {v xv : Value} {wd n m : Nat} {mk : Bool} {cs cells : List Value} {bt : Option Nat} (hu : P.underlying t = some (.slice e)) (htu : P.underlying u = some tu.d) (hd : tu.d = .slice tu.el ∨ tu.d = .string)
    (hTe : TIok P e te) (hwd : wd = te.sz) (ho : RoomO w v wd mk n cs bt) (hcl : cells.length = m * wd) (hone : ∀ v ∈ cells, v.oneCell' = true)
    (hlen : ∀ w1, (Builtin.lenOf xv).run P w1 = .ok m w1) (hfc : ∀ w1, w1.heap = w.heap → (Builtin.firstCells wd m xv).run P w1 = .ok cells.toArray w1)
    (hB : (n + m) * te.bytes ≤ LIM) (hbp : 0 < te.bytes) :
    ∃ v' w' b', (Builtin.append_ #[t, u] ty #[v, xv]).run P w = .ok v' w' ∧ RoomO w' v' wd mk (n + m) (cs ++ cells) b' ∧ w'.os = w.os ∧ w'.tape = w.tape ∧ w'.output = w.output ∧ w.heap.size ≤ w'.heap.size ∧
      ((b' = bt ∧ ∀ k, some k ≠ bt → w'.heap[k]? = w.heap[k]?) ∨ (b' = some w.heap.size ∧ ∀ k, k < w.heap.size → w'.heap[k]? = w.heap[k]?)) := by
  obtain ⟨i, hi, his, hib, z, hz, hzc⟩ := hTe.info
  have hLIM : LIM = 140737488355328 := rfl
  have hsum : n + m ≤ LIM := Nat.le_trans (Nat.le_mul_of_pos_right _ hbp) hB
  have hzeros : (match tu.d with | .int _ => true | _ => false) = false := by rcases hd with h | h <;> rw [h]
  have hw0 : 0 < wd := by rw [hwd]; exact hTe.pos
  have hz2 : z.cells.size = te.sz := by rw [hzc]; simp [TI.sz]
  have grow : ∀ (base : Option Addr) (cap : Nat), v = .slice base n cap → cap < n + m → cs.length = n * wd →
      (Builtin.firstCells wd n v).run P w.drew = .ok cs.toArray w.drew →
      ∃ v' w' b', (Builtin.append_ #[t, u] ty #[v, xv]).run P w = .ok v' w' ∧ RoomO w' v' wd mk (n + m) (cs ++ cells) b' ∧ w'.os = w.os ∧ w'.tape = w.tape ∧ w'.output = w.output ∧ w.heap.size ≤ w'.heap.size ∧
      ((b' = bt ∧ ∀ k, some k ≠ bt → w'.heap[k]? = w.heap[k]?) ∨ (b' = some w.heap.size ∧ ∀ k, k < w.heap.size → w'.heap[k]? = w.heap[k]?)) := by
    intro base cap hv hlt hcsl hold
    have hge := grownCap_ge w (n + m) cap e
    have hcm := grownCap_le_maxLen w (n + m) cap e (by unfold maxLen; omega)
    have hfit := growslice_fits (bytes := i.bytes) hlt (by rw [hib]; omega)
    have hn1 : ¬ (Builtin.nextslicecap (n + m) cap * i.bytes > 2 ^ 48) := by omega
    have hn2 : ¬ ((n : Int) + (m : Int) > IntKind.i64.max ∧ i.bytes = 0) := by omega
    have hnc : ¬ (n + m ≤ cap) := by omega
    have hn3 : ¬ (9223372036854775807 < (n : Int) + (m : Int) ∧ i.bytes = 0) := by omega
    refine ⟨.slice (some ⟨w.heap.size, 0, none⟩) (n + m) (grownCap w (n + m) cap e),
      w.drew.alloc (.cells (cs.toArray ++ cells.toArray ++ Builtin.zeroCells z.cells (grownCap w (n + m) cap e - (n + m))) e), some w.heap.size, ?_, ?_, rfl, rfl, rfl, by simp, .inr ⟨rfl, fun k hk => drew_alloc_old w _ hk⟩⟩
    · subst hv
      have hh := hfc w.drew rfl
      rw [hwd] at hh hold
      have hq : (Question.appendCap (n + m) cap e).forced = false := rfl
      have hdr : ({ w with drawn := w.drawn + 1 } : World) = w.drew := rfl
      rcases hd with hd | hd <;> rw [hd] at htu <;>
      simp [Builtin.append_, run_underlying hu, run_underlying htu, sizeOf, typeInfo, hi, hlen, hnc, his, hn1, hn3, hq, hdr, hold, hh, zeroValue, hz, newRow, grownCap]
      all_goals (try (rw [← Array.append_assoc]; simp))
    · refine .inr ⟨w.heap.size, rfl, ⟨⟨0, grownCap w (n + m) cap e, _, e, (0, 0), rfl, heap_alloc_new w.drew _, ?_, by simpa using hge, hcm, NoFz.none _ _, ?_⟩, ?_, hsum⟩⟩
      · simp only [Array.size_append, List.size_toArray, size_zeroCells, hz2, hcsl, hcl, ← hwd, ← Nat.add_mul, Nat.zero_add]
        exact Nat.mul_le_mul_right _ (by omega)
      · simp only [Array.toList_append, List.append_assoc, List.drop_zero]
        rw [← List.append_assoc]
        exact List.take_left
      · simp only [List.length_append, hcsl, hcl, ← Nat.add_mul]
  rcases ho with ⟨rfl, rfl, rfl, ad, rfl⟩ | ⟨b, rfl, ⟨⟨o', cap, c, t', fr, rfl, hb, hcap, hle, hmx, hfz, hc⟩, hcsl, hlim⟩⟩
  · by_cases h0 : m = 0
    · subst h0
      have hcn : cells = [] := List.eq_nil_of_length_eq_zero (by simpa using hcl)
      subst hcn
      have hh := hfc w rfl
      rw [hwd] at hh
      refine ⟨.slice ad 0 0, w, none, ?_, .inl ⟨rfl, rfl, rfl, ad, rfl⟩, rfl, rfl, rfl, Nat.le_refl _, .inl ⟨rfl, fun _ _ => rfl⟩⟩
      rcases hd with hd | hd <;> rw [hd] at htu <;> cases ad <;>
      simp [Builtin.append_, run_underlying hu, run_underlying htu, sizeOf, typeInfo, hi, hlen, his] <;> (try simp at hh) <;> simp [hh, storeCells]
    · exact grow ad 0 rfl (by omega) (by simp) (by cases ad <;> simp [Builtin.firstCells, loadCells, loadCellsFrom])
  · by_cases hroom : n + m ≤ cap
    · have hmul : (n + m) * wd ≤ cap * wd := Nat.mul_le_mul_right _ hroom
      have hfit : o' + n * te.sz + 0 + cells.length ≤ c.size := by
        rw [hcl, ← hwd]; rw [Nat.add_mul] at hmul; omega
      obtain ⟨w', r1, r2, r3, r4, r5, r6, r7⟩ := run_storeCells_gen (P := P) b t' fr cells (o' + n * te.sz) 0 c w hb hfit hfz.1 hone
      have hh := hfc w rfl
      rw [hwd] at hh
      have hct : (c.toList.drop o').take (n * wd) = cs := by rw [← hcsl]; exact hc
      have hsz : o' + n * wd ≤ c.size := by rw [Nat.add_mul] at hmul; omega
      refine ⟨.slice (some ⟨b, o', none⟩) (n + m) cap, w', some b, ?_, ?_, r4, r5, r6, Nat.le_of_eq r7.symm, .inl ⟨rfl, fun k hk => r3 k (by simpa using hk)⟩⟩
      · rcases hd with hd | hd <;> rw [hd] at htu <;>
        simp [Builtin.append_, run_underlying hu, run_underlying htu, sizeOf, typeInfo, hi, hlen, his, hroom, hh, addr_add, r1]
      · refine .inr ⟨b, rfl, ⟨⟨o', cap, _, t', fr, rfl, r2, ?_, hroom, hmx, ?_, ?_⟩, ?_, hsum⟩⟩
        · simp only [List.size_toArray, List.length_append, List.length_take, List.length_drop, Array.length_toList]; omega
        · refine hfz.cast ?_
          simp only [List.size_toArray, List.length_append, List.length_take, List.length_drop, Array.length_toList]; omega
        · have e1 : c.toList.take (o' + n * te.sz + 0) = c.toList.take o' ++ cs := by
            rw [← hwd, Nat.add_zero, List.take_add, hct]
          have hol : (c.toList.take o').length = o' := by simp; omega
          rw [List.toList_toArray, e1]
          have : c.toList.take o' ++ cs ++ cells ++ c.toList.drop (o' + n * te.sz + 0 + cells.length) = c.toList.take o' ++ ((cs ++ cells) ++ c.toList.drop (o' + n * te.sz + 0 + cells.length)) := by simp
          rw [this]
          conv => lhs; rw [← hol]
          simp only [hol]
          rw [List.drop_left' hol, List.take_left]
        · simp only [List.length_append, hcsl, hcl, ← Nat.add_mul]
    · have hold : (Builtin.firstCells wd n (.slice (some ⟨b, o', none⟩) n cap)).run P w.drew = .ok cs.toArray w.drew := by
        have hbnd : o' + n * wd ≤ c.size := by
          have := Nat.mul_le_mul_right wd hle; omega
        have := run_loadCells_row (P := P) (w := w.drew) b o' _ c t' fr hb hbnd
        simp only [Builtin.firstCells]
        rw [this, ← hcsl]
        simp [hc]
      exact grow _ cap rfl (by omega) hcsl hold
theorem src_sound {T : PTy} {x : SV} {ob : Prop} {new : List PV} (h : srcOf A T x = some (ob, new)) (hob : ob) (hp : Holds B X F A β ϕ w) (hk : SV.ok β x) :
    ∃ (cells : List Value) (f : List Nat), Lv w (flatT T new.length) (flatP new) cells f ∧ (∀ e ∈ new, Shp T e) ∧ new.length ≤ LIM ∧ (∀ w1, (Builtin.lenOf (SV.val β x)).run P w1 = .ok new.length w1) ∧
      (∀ w1, w1.heap = w.heap → (Builtin.firstCells T.wd new.length (SV.val β x)).run P w1 = .ok cells.toArray w1) ∧ ((∀ h, x ≠ .sl h) → f = []) ∧
      (∀ i, x = .sl i → (∃ b, ϕ i = b :: f) ∨ f = []) ∧ (∀ i p es, x = .sl i → lk A i = some (.arr .dp T es p) → Lo w (flatT T new.length) (flatP new) cells f) := by
  cases x <;> simp only [srcOf, reduceCtorEq, Option.some.injEq, Prod.mk.injEq] at h
  case str l =>
    obtain ⟨rfl, rfl⟩ := h
    subst hob
    have hl : (bytesPV l).length = l.length := by simp [bytesPV]
    have hsz : (ByteArray.mk l.toArray).size = l.length := by simp [ByteArray.size]
    refine ⟨l.map fun b => .int .u8 b.toNat, [], by rw [hl]; exact lv_bytes w l, ?_, by rw [hl]; exact hk, ?_, ?_, fun _ => rfl, by simp, by simp⟩
    · intro e he qs; simp only [bytesPV, List.mem_map] at he; obtain ⟨b, _, rfl⟩ := he; simp
    · intro w1; simp [Builtin.lenOf, SV.val, hl, hsz]
    · intro w1 _
      have h2 : ((ByteArray.mk l.toArray).extract 0 l.length).data = l.toArray := by
        have : (ByteArray.mk l.toArray).extract 0 l.length = ⟨l.toArray⟩ := by
          apply ByteArray.ext; simp
        rw [this]
      simp [Builtin.firstCells, SV.val, hl, h2]
  case sl i =>
    split at h
    · cases h
    · rename_i ow T' es p hnc hl
      have hnc : ∀ k, ow ≠ .cs k := fun k e => hnc k (by rw [e])
      simp only [Option.some.injEq, Prod.mk.injEq] at h
      obtain ⟨rfl, rfl⟩ := h
      subst hob
      have hL := hp_lv hp hl hnc
      obtain ⟨hle, cap, ad, hv, hcap⟩ := lv_len hL
      by_cases h0 : 0 < es.length
      · -- the cells of this very array
        have key : ∀ (L : List PTy → List PV → List Value → List Nat → Prop), LOk w L → OwnG L w (β i).v T' es (ϕ i) → ∃ b off cap' c t fr cs f1, (β i).v = .slice (some ⟨b, off, none⟩) es.length cap' ∧ ϕ i = b :: f1 ∧ w.heap[b]? = some (.cells c t fr) ∧ (∀ e ∈ es, Shp T' e) ∧ L (flatT T' es.length) (flatP es) cs f1 ∧ (c.toList.drop off).take cs.length = cs := by
          rintro L hLk (⟨rfl, _⟩ | ⟨b, f1, cs, hϕ, ⟨⟨o', cap, c, t', fr, hv, hblk, hcap, hle, hmx, hfz, hcs⟩, hlen1, hlim⟩, hS, hL⟩)
          · simp at h0
          · exact ⟨b, o', cap, c, t', fr, cs, f1, hv, hϕ, hblk, hS, hL, hcs⟩
        have gen : ∃ b off cap' c t fr cs f1, (β i).v = .slice (some ⟨b, off, none⟩) es.length cap' ∧ ϕ i = b :: f1 ∧ w.heap[b]? = some (.cells c t fr) ∧ (∀ e ∈ es, Shp T' e) ∧ Lv w (flatT T' es.length) (flatP es) cs f1 ∧ (c.toList.drop off).take cs.length = cs ∧ (ow = .dp → Lo w (flatT T' es.length) (flatP es) cs f1) := by
          by_cases hdp : ow = .dp
          · subst hdp
            obtain ⟨b, off, cap', c, t, fr, cs, f1, q1, q2, q3, q4, q5, q6⟩ := key _ (lok_lo w) (hp.sat _ _ hl)
            exact ⟨b, off, cap', c, t, fr, cs, f1, q1, q2, q3, q4, q5.lv, q6, fun _ => q5⟩
          · obtain ⟨b, off, cap', c, t, fr, cs, f1, q1, q2, q3, q4, _, q5, q6⟩ := lv_sl hL h0
            exact ⟨b, off, cap', c, t, fr, cs, f1, q1, q2, q3, q4, q5, q6, fun e => absurd e hdp⟩
        obtain ⟨b, off, cap', c, t, fr, cs, f1, hv', hϕ, hb, hS, hLs, hcs, hLo⟩ := gen
        refine ⟨cs, f1, hLs, hS, hle, ?_, ?_, fun hh => absurd rfl (hh i), ?_, ?_⟩
        · intro w1; simp [Builtin.lenOf, SV.val, hv']
        · intro w1 hw1
          have hcl : cs.length = es.length * T'.wd := by rw [hLs.lens.2, ← hLs.lens.1, flatT_len]
          have hbnd : off + es.length * T'.wd ≤ c.size ∨ es.length * T'.wd = 0 := by
            have := congrArg List.length hcs
            rw [List.length_take, List.length_drop] at this
            simp only [Array.length_toList] at this
            omega
          simp only [Builtin.firstCells, SV.val, hv']
          rcases hbnd with hbnd | hbnd
          · rw [run_loadCells_row (P := P) b off _ c t fr (by rw [hw1]; exact hb) hbnd, ← hcl, hcs]
          · have : cs = [] := List.eq_nil_of_length_eq_zero (by omega)
            rw [hbnd, this]; rfl
        · intro j e; cases e; exact .inl ⟨b, hϕ⟩
        · intro j p' es' e hl'
          cases e
          rw [hl] at hl'
          cases hl'
          exact hLo rfl
      · have h1 : es = [] := List.eq_nil_of_length_eq_zero (by omega)
        subst h1
        refine ⟨[], [], .nil, by simp, by simp, ?_, ?_, fun _ => rfl, fun j e => .inr rfl, fun j p' es' e hl' => ⟨[], rfl, .nil⟩⟩
        · intro w1; simp [Builtin.lenOf, SV.val, hv]
        · intro w1 _
          simp only [SV.val, hv]
          cases ad <;> simp [Builtin.firstCells, loadCells, loadCellsFrom]
    · cases h
  case nils =>
    obtain ⟨rfl, rfl⟩ := h
    refine ⟨[], [], .nil, by simp, by simp, ?_, ?_, fun _ => rfl, by simp, by simp⟩
    · intro w1; simp [Builtin.lenOf, SV.val]
    · intro w1 _; simp [Builtin.firstCells, SV.val]
def optF (b : Option Nat) (g : List Nat) : List Nat := match b with | some b => b :: g | none => []
theorem ownG_append {L : World → List PTy → List PV → List Value → List Nat → Prop} (hLk : ∀ w, LOk w (L w)) (hLf : ∀ w w' Ts ps vs f, L w Ts ps vs f → (∀ b ∈ f, w'.heap[b]? = w.heap[b]?) → L w' Ts ps vs f)
    {v' : Value} {T : PTy} {es new : List PV} {cs cells : List Value} {g fx : List Nat} {b' : Option Nat} (hr : RoomO w' v' T.wd T.u8 (es ++ new).length (cs ++ cells) b') (hL : L w (flatT T es.length) (flatP es) cs g) (hN : L w (flatT T new.length) (flatP new) cells fx)
    (hS : ∀ e ∈ es, Shp T e) (hS' : ∀ e ∈ new, Shp T e) (hf : ∀ b ∈ g ++ fx, w'.heap[b]? = w.heap[b]?) : OwnG (L w') w' v' T (es ++ new) (optF b' (g ++ fx)) := by
  rcases hr with ⟨h1, h2, rfl, h4⟩ | ⟨b, rfl, hr⟩
  · exact .inl ⟨List.eq_nil_of_length_eq_zero h1, rfl, h4⟩
  · refine .inr ⟨b, g ++ fx, cs ++ cells, rfl, hr, ?_, ?_⟩
    · intro e he
      rcases List.mem_append.1 he with he | he
      · exact hS e he
      · exact hS' e he
    · have h1 := (hLk w').app (hLf w w' _ _ _ _ hL fun b hb => hf b (by simp [hb])) (hLf w w' _ _ _ _ hN fun b hb => hf b (by simp [hb]))
      rw [List.length_append, flatT_add, flatP_append]
      exact h1
theorem ownG_room {L : List PTy → List PV → List Value → List Nat → Prop} (hLn : L [] [] [] []) {v : Value} {T : PTy} {es : List PV} {f : List Nat} (h : OwnG L w v T es f) : ∃ cs g b, RoomO w v T.wd T.u8 es.length cs b ∧ L (flatT T es.length) (flatP es) cs g ∧ (∀ e ∈ es, Shp T e) ∧ f = optF b g ∧ (b = none → g = []) := by
  rcases h with ⟨rfl, rfl, h4⟩ | ⟨b, f1, cs, rfl, hr, hS, hL⟩
  · exact ⟨[], [], none, .inl ⟨rfl, rfl, rfl, h4⟩, hLn, by simp, rfl, fun _ => rfl⟩
  · exact ⟨cs, f1, some b, .inr ⟨b, rfl, hr⟩, hL, hS, rfl, fun h => by cases h⟩
end
end Go.Proofs.YtkofjkjcbljkdaaGreatDoor
end

section
namespace Go.Proofs.YtkofjkjcbljkdaaGreatDoor
variable [LaidG]
set_option linter.unusedVariables false
section
variable {P : Program} {E : Env} {N : Nat} {w0 : World} {X F : List Nat} {S : St} {β : Nat → GV} {ϕ : Nat → List Nat} {a : Act} {w w' : World} {o : Oper} {R : RR} {A : Hp} {B : Nat}
theorem add_app {n : Nat} {A2 : Hp} {ϕ2 : Nat → List Nat} (hp : Holds w0.heap.size X F A2 β ϕ2 w) (hb : Bd n β A2) (hw : Fr w0 X w) {o' : Own} (ho' : o' = .dp ∨ o' = .sh) {bt b' : Option Nat} {gf : List Nat} {v' : Value} {T : PTy} {es : List PV}
    (hbt : ∀ b, bt = some b → (∀ i hl, lk A2 i = some hl → hl ≠ .dead → b ∉ ϕ2 i) ∧ (b ∈ X ∨ w0.heap.size ≤ b) ∧ (b ∈ F ∨ w0.heap.size ≤ b) ∧ b ∉ gf)
    (hgf : ∀ b ∈ gf, b < w.heap.size ∧ (b ∈ F ∨ w0.heap.size ≤ b))
    (hdp : o' = .dp → gf.Nodup ∧ Apart A2 ϕ2 gf ∧ ∀ b ∈ gf, b ∈ X ∨ w0.heap.size ≤ b)
    (hsh : ∀ i hl, lk A2 i = some hl → ∀ b ∈ owned (ϕ2 i) hl, b ∉ gf)
    (h7 : (b' = bt ∧ ∀ k, some k ≠ bt → w'.heap[k]? = w.heap[k]?) ∨ (b' = some w.heap.size ∧ ∀ k, k < w.heap.size → w'.heap[k]? = w.heap[k]?))
    (hone : v'.oneCell' = true) (hsat : HLSat w' (gv v') (upd β n (gv v')) (optF b' gf) (.arr o' T es .no)) :
    Holds w0.heap.size X F ((n, .arr o' T es .no) :: A2) (upd β n (gv v')) (upd ϕ2 n (optF b' gf)) w' ∧ Bd (n + 1) (upd β n (gv v')) ((n, .arr o' T es .no) :: A2) := by
  have hsz := hw.size
  have h1 : Holds w0.heap.size X F A2 β ϕ2 w' := by
    refine hp.world fun i hl hi hd b hb' => ?_
    rcases h7 with ⟨_, h⟩ | ⟨_, h⟩
    · refine h b fun e => ?_
      exact (hbt b e.symm).1 i hl hi hd hb'
    · exact h b (hp.inb hi hd b hb')
  have hbk : ∀ b, b' = some b → (∀ i hl, lk A2 i = some hl → hl ≠ .dead → b ∉ ϕ2 i) ∧ (b ∈ X ∨ w0.heap.size ≤ b) ∧ (b ∈ F ∨ w0.heap.size ≤ b) ∧ b ∉ gf := by
    intro b e
    rcases h7 with ⟨h, _⟩ | ⟨h, _⟩
    · exact hbt b (h ▸ e)
    · rw [h] at e; cases e
      refine ⟨fun i hl hi hd hm => ?_, .inr hsz, .inr hsz, fun hm => ?_⟩
      · have := hp.inb hi hd _ hm; omega
      · have := (hgf _ hm).1; omega
  have hpok : pathOk A2 (upd β n (gv v')) w' (gv v') (.arr o' T es .no) := by rcases ho' with rfl | rfl <;> trivial
  have hro : roots (.arr o' T es .no) = [] := by rcases ho' with rfl | rfl <;> rfl
  cases b' with
  | none =>
    refine ⟨h1.add hb hone hsat (fun x hx => ?_) (fun _ x hx => ?_) ?_ (fun i hl hi hd x hx hm => ?_) (fun i hl hi _ x hx hm => ?_) hpok (by rw [hro]; simp) (by rw [hro]; simp), hb_add hb (by rcases ho' with rfl | rfl <;> trivial)⟩
    · have := owned_sub x hx; simp [optF] at this
    · simp [optF] at hx
    · rcases ho' with rfl | rfl <;> simp [ndOk, optF]
    · have := owned_sub x hm; simp [optF] at this
    · simp [optF] at hm
  | some b =>
    obtain ⟨k1, k2, k3, k4⟩ := hbk b rfl
    refine ⟨h1.add hb hone hsat (fun x hx => ?_) (fun _ x hx => ?_) ?_ (fun i hl hi hd x hx hm => ?_) (fun i hl hi _ x hx hm => ?_) hpok (by rw [hro]; simp) (by rw [hro]; simp), hb_add hb (by rcases ho' with rfl | rfl <;> trivial)⟩
    · rcases ho' with rfl | rfl
      · simp only [owned, optF, List.mem_cons] at hx
        rcases hx with rfl | hx
        · exact k2
        · exact (hdp rfl).2.2 x hx
      · simp only [owned, optF, List.take_succ_cons, List.take_zero, List.mem_singleton] at hx
        subst hx; exact k2
    · simp only [optF, List.mem_cons] at hx
      rcases hx with rfl | hx
      · exact k3
      · exact (hgf x hx).2
    · rcases ho' with rfl | rfl
      · exact List.nodup_cons.2 ⟨k4, (hdp rfl).1⟩
      · intro b' r e; cases e; exact k4
    · rcases ho' with rfl | rfl
      · simp only [owned, optF, List.mem_cons] at hm
        rcases hm with rfl | hm
        · exact k1 i hl hi hd hx
        · exact (hdp rfl).2.1 i hl hi hd x hx hm
      · simp only [owned, optF, List.take_succ_cons, List.take_zero, List.mem_singleton] at hm
        subst hm; exact k1 i hl hi hd hx
    · simp only [optF, List.mem_cons] at hm
      by_cases hd : hl = .dead
      · subst hd; simp [owned] at hx
      · rcases hm with rfl | hm
        · exact k1 i hl hi hd (owned_sub x hx)
        · exact hsh i hl hi x hx hm
theorem fr_app {bt b' : Option Nat} (hw : Fr w0 X w) (r3 : w'.os = w.os) (r4 : w'.tape = w.tape) (r5 : w'.output = w.output) (r6 : w.heap.size ≤ w'.heap.size) (hbt : ∀ b, bt = some b → b ∈ X ∨ w0.heap.size ≤ b)
    (h7 : (b' = bt ∧ ∀ k, some k ≠ bt → w'.heap[k]? = w.heap[k]?) ∨ (b' = some w.heap.size ∧ ∀ k, k < w.heap.size → w'.heap[k]? = w.heap[k]?)) : Fr w0 X w' := by
  refine ⟨r3.trans hw.os, r4.trans hw.tape, r5.trans hw.output, Nat.le_trans hw.size r6, fun b hb hn => ?_⟩
  have hbs := Nat.lt_of_lt_of_le hb hw.size
  refine Eq.trans ?_ (hw.block b hb hn)
  rcases h7 with ⟨_, h⟩ | ⟨_, h⟩
  · refine h b fun e => ?_
    rcases hbt b e.symm with h8 | h8
    · exact hn h8
    · omega
  · exact h b hbs
structure Target (B : Nat) (X F : List Nat) (A1 : Hp) (β : Nat → GV) (ϕ1 : Nat → List Nat) (w : World) (n : Nat) (o1 : Own) (v : Value) (T : PTy) (es : List PV) (f0 : List Nat) : Prop where
  hp : Holds B X F A1 β ϕ1 w
  hb : Bd n β A1
  ho : o1 = .dp ∨ o1 = .sh
  own : (o1 = .dp → OwnD w v T es f0) ∧ (o1 = .sh → OwnS w v T es f0)
  nd : ndOk f0 (.arr o1 T es .no)
  ap : Apart A1 ϕ1 (owned f0 (.arr o1 T es .no))
  dj : ∀ i hl, lk A1 i = some hl → ∀ b ∈ owned (ϕ1 i) hl, b ∉ f0
  ow : ∀ b ∈ owned f0 (.arr o1 T es .no), b ∈ X ∨ B ≤ b
  all : ∀ b ∈ f0, b < w.heap.size ∧ (b ∈ F ∨ B ≤ b)
theorem app_core {t u e ty : TypeId} {tu te : TI} {n : Nat} {A1 : Hp} {ϕ1 : Nat → List Nat} {o1 : Own} {v xv : Value} {es new : List PV} {f0 : List Nat} (tg : Target w0.heap.size X F A1 β ϕ1 w n o1 v te.pty es f0) (hw : Fr w0 X w)
    (hu : P.underlying t = some (.slice e)) (htu : P.underlying u = some tu.d) (hd : tu.d = .slice tu.el ∨ tu.d = .string) (hTe : TIok P e te)
    {cells : List Value} {fx : List Nat} (hN : Lv w (flatT te.pty new.length) (flatP new) cells fx) (hS' : ∀ e ∈ new, Shp te.pty e)
    (hlen : ∀ w1, (Builtin.lenOf xv).run P w1 = .ok new.length w1) (hfc : ∀ w1, w1.heap = w.heap → (Builtin.firstCells te.pty.wd new.length xv).run P w1 = .ok cells.toArray w1)
    (hB : (es.length + new.length) * te.bytes ≤ LIM)
    {o2 : Own} {A2 : Hp} (ho2 : o2 = .dp ∨ o2 = .sh) (hp2 : Holds w0.heap.size X F A2 β ϕ1 w) (hb2 : Bd n β A2) (hA2 : ∀ i hl, lk A2 i = some hl → hl ≠ .dead → ∃ hl1, lk A1 i = some hl1 ∧ hl1 ≠ .dead ∧ ∀ b ∈ owned (ϕ1 i) hl, b ∈ owned (ϕ1 i) hl1)
    (h12 : o2 = .dp → o1 = .dp ∧ Lo w (flatT te.pty new.length) (flatP new) cells fx ∧ fx.Nodup ∧ Apart A2 ϕ1 fx ∧ (∀ b ∈ fx, b ∈ X ∨ w0.heap.size ≤ b)) (hfx0 : ∀ b ∈ fx, b ∉ owned f0 (.arr o1 te.pty es .no))
    (hfx : ∀ i hl, lk A2 i = some hl → ∀ b ∈ owned (ϕ1 i) hl, b ∉ fx) (hfx2 : ∀ b ∈ fx, b < w.heap.size ∧ (b ∈ F ∨ w0.heap.size ≤ b)) :
    ∃ v' w' f', (Builtin.append_ #[t, u] ty #[v, xv]).run P w = .ok v' w' ∧ Holds w0.heap.size X F ((n, .arr o2 te.pty (es ++ new) .no) :: A2) (upd β n (gv v')) (upd ϕ1 n f') w' ∧ Bd (n + 1) (upd β n (gv v')) ((n, .arr o2 te.pty (es ++ new) .no) :: A2) ∧ Fr w0 X w' := by
  have hcl : cells.length = new.length * te.pty.wd := by rw [hN.lens.2, flatP_len hS']
  have parts : ∃ (L : World → List PTy → List PV → List Value → List Nat → Prop), (∀ w, LOk w (L w)) ∧ (∀ w w' Ts ps vs f, L w Ts ps vs f → (∀ b ∈ f, w'.heap[b]? = w.heap[b]?) → L w' Ts ps vs f) ∧ (∀ w v T es f (g : GV) β, g.v = v → OwnG (L w) w v T es f → HLSat w g β f (.arr o2 T es .no)) ∧
      (∃ cs g bt, RoomO w v te.pty.wd te.pty.u8 es.length cs bt ∧ L w (flatT te.pty es.length) (flatP es) cs g ∧ (∀ e ∈ es, Shp te.pty e) ∧ f0 = optF bt g ∧ (bt = none → g = [])) ∧ L w (flatT te.pty new.length) (flatP new) cells fx := by
    rcases ho2 with rfl | rfl
    · obtain ⟨h1, h2, _⟩ := h12 rfl
      refine ⟨Lo, lok_lo, fun _ _ _ _ _ _ h hf => h.frame hf, fun w v T es f g β e h => by subst e; exact h, ?_, h2⟩
      exact ownG_room ⟨[], rfl, .nil⟩ (tg.own.1 h1)
    · refine ⟨Lv, lok_lv, fun _ _ _ _ _ _ h hf => h.frame hf, fun w v T es f g β e h => by subst e; exact h, ?_, hN⟩
      have : OwnS w v te.pty es f0 := by
        rcases tg.ho with h | h
        · exact ownD_S (tg.own.1 h)
        · exact tg.own.2 h
      exact ownG_room .nil this
  obtain ⟨L, hLk, hLf, hLs, ⟨cs, g, bt, q1, q2, q3, q4, q5⟩, hLn⟩ := parts
  obtain ⟨v', w', b', r1, r2, r3, r4, r5, r6, r7⟩ := run_append_raw (P := P) (w := w) (ty := ty) (m := new.length) hu htu hd hTe (pty_wd hTe).1 q1 hcl (lv_one hN) hlen hfc hB hTe.bpos
  have hbtf : ∀ b, bt = some b → b ∈ owned f0 (.arr o1 te.pty es .no) := by
    intro b e
    subst e
    rw [q4]
    rcases tg.ho with rfl | rfl <;> simp [owned, optF]
  have hgsub : ∀ b ∈ g, b ∈ f0 := by
    intro b hb
    cases bt with
    | none => rw [q5 rfl] at hb; cases hb
    | some b0 => rw [q4]; exact List.mem_cons_of_mem _ hb
  have hbtg : ∀ b, bt = some b → b ∉ g := by
    intro b e hm
    subst e
    have := tg.nd
    rw [q4] at this
    rcases tg.ho with rfl | rfl
    · exact (List.nodup_cons.1 this).1 hm
    · exact this b g rfl hm
  have hgw : ∀ b ∈ g ++ fx, b < w.heap.size ∧ (b ∈ F ∨ w0.heap.size ≤ b) := by
    intro b hb
    rcases List.mem_append.1 hb with hb | hb
    · exact tg.all b (hgsub b hb)
    · exact hfx2 b hb
  have hbt : ∀ b, bt = some b → (∀ i hl, lk A2 i = some hl → hl ≠ .dead → b ∉ ϕ1 i) ∧ (b ∈ X ∨ w0.heap.size ≤ b) ∧ (b ∈ F ∨ w0.heap.size ≤ b) ∧ b ∉ g ++ fx := by
    intro b e
    have hbo := hbtf b e
    refine ⟨?_, tg.ow b hbo, (tg.all b (owned_sub b hbo)).2, ?_⟩
    · intro i hl hi hdd hm
      obtain ⟨hl1, e1, e2, _⟩ := hA2 i hl hi hdd
      exact tg.ap i hl1 e1 e2 b hm hbo
    · intro hm
      rcases List.mem_append.1 hm with hm | hm
      · exact hbtg b e hm
      · exact hfx0 b hm hbo
  have hframe : ∀ b ∈ g ++ fx, w'.heap[b]? = w.heap[b]? := by
    intro b hb
    rcases r7 with ⟨_, h⟩ | ⟨_, h⟩
    · refine h b fun e => ?_
      exact (hbt b e.symm).2.2.2 hb
    · exact h b (hgw b hb).1
  have hown := ownG_append (w := w) hLk hLf (by simpa using r2) q2 hLn q3 hS' hframe
  have hone : v'.oneCell' = true := by
    rcases r2 with ⟨_, _, _, a, rfl⟩ | ⟨_, _, ⟨⟨o, cap, c, t, fr, rfl, _⟩, _⟩⟩ <;> rfl
  have hA : o2 = .dp → (g ++ fx).Nodup ∧ Apart A2 ϕ1 (g ++ fx) ∧ ∀ b ∈ g ++ fx, b ∈ X ∨ w0.heap.size ≤ b := by
    intro e
    obtain ⟨h1, _, h3, h4, h5⟩ := h12 e
    subst h1
    have hnd : f0.Nodup := tg.nd
    refine ⟨List.nodup_append.2 ⟨?_, h3, ?_⟩, ?_, ?_⟩
    · cases bt with
      | none => rw [q5 rfl]; simp
      | some b0 => rw [q4] at hnd; exact (List.nodup_cons.1 hnd).2
    · intro x hx y hy exy
      subst exy
      exact hfx0 x hy (by simpa [owned] using hgsub x hx)
    · intro i hl hi hdd b hb hm
      rcases List.mem_append.1 hm with hm | hm
      · obtain ⟨hl1, e1, e2, _⟩ := hA2 i hl hi hdd
        exact tg.ap i hl1 e1 e2 b hb (by simpa [owned] using hgsub b hm)
      · exact h4 i hl hi hdd b hb hm
    · intro b hb
      rcases List.mem_append.1 hb with hb | hb
      · exact tg.ow b (by simpa [owned] using hgsub b hb)
      · exact h5 b hb
  have hB2 : ∀ i hl, lk A2 i = some hl → ∀ b ∈ owned (ϕ1 i) hl, b ∉ g ++ fx := by
    intro i hl hi b hb hm
    rcases List.mem_append.1 hm with hm | hm
    · by_cases hdd : hl = .dead
      · subst hdd; simp [owned] at hb
      · obtain ⟨hl1, e1, e2, e3⟩ := hA2 i hl hi hdd
        exact tg.dj i hl1 e1 b (e3 b hb) (hgsub b hm)
    · exact hfx i hl hi b hb hm
  obtain ⟨c1, c2⟩ := add_app (n := n) (o' := o2) (T := te.pty) (es := es ++ new) (v' := v') hp2 hb2 hw ho2 hbt hgw hA hB2 r7 hone (hLs w' v' te.pty (es ++ new) _ (gv v') _ rfl hown)
  exact ⟨v', w', _, r1, c1, c2, fr_app hw r3 r4 r5 r6 (fun b e => (hbt b e).2.1) r7⟩
theorem target_nil {n : Nat} {T : PTy} (hp : Holds B X F A β ϕ w) (hb : Bd n β A) : Target B X F A β ϕ w n .dp (.slice none 0 0) T [] [] :=
  ⟨hp, hb, .inl rfl, ⟨fun _ => .inl ⟨rfl, rfl, none, rfl⟩, fun h => by cases h⟩, by simp [ndOk], fun _ _ _ _ _ _ => by simp [owned], by simp, by simp [owned], by simp⟩
theorem target_of {n h : Nat} {o1 : Own} {T : PTy} {es : List PV} {p : Pth} (hp : Holds B X F A β ϕ w) (hb : Bd n β A) (hl : lk A h = some (.arr o1 T es p)) (ho : o1 = .dp ∨ o1 = .sh) : Target B X F (strike [h] A) β ϕ w n o1 (β h).v T es (ϕ h) := by
  have hro : roots (.arr o1 T es p) = [] := by rcases ho with rfl | rfl <;> rfl
  have hoo : owned (ϕ h) (.arr o1 T es p) = owned (ϕ h) (.arr o1 T es .no) := by rcases ho with rfl | rfl <;> rfl
  refine ⟨hp.struck _, strike_bd hb _, ho, ⟨fun e => ?_, fun e => ?_⟩, ?_, ?_, ?_, ?_, ?_⟩
  · subst e; exact hp.sat _ _ hl
  · subst e; exact hp.sat _ _ hl
  · have := hp.nd _ _ hl
    rcases ho with rfl | rfl <;> exact this
  · exact strike_apart hp fun b hb' => ⟨h, by simp, _, hl, by rw [hoo]; exact hb'⟩
  · intro i hl' hi b hb' hm
    by_cases hd : hl' = .dead
    · subst hd; simp [owned] at hb'
    · obtain ⟨e1, e2, e3⟩ := strike_lk hi hd
      exact hp.dj i h hl' _ e1 hl (by simpa using e2) (by rw [hro]; simp) (by simp) b hb' hm
  · intro b hb'; exact hp.own _ _ hl b (by rw [hoo]; exact hb')
  · intro b hb'; exact ⟨hp.inb hl (by simp) b hb', hp.all _ _ hl trivial b hb'⟩
theorem app_join {t u e ty : TypeId} {tu te : TI} {n : Nat} {A1 : Hp} {ϕ1 : Nat → List Nat} {o1 : Own} {v : Value} {x : SV} {es new : List PV} {f0 : List Nat} (tg : Target w0.heap.size X F A1 β ϕ1 w n o1 v te.pty es f0) (hw : Fr w0 X w)
    (hu : P.underlying t = some (.slice e)) (htu : P.underlying u = some tu.d) (hd : tu.d = .slice tu.el ∨ tu.d = .string) (hTe : TIok P e te)
    {A : Hp} {ϕ : Nat → List Nat} {ob : Prop} (hp : Holds w0.heap.size X F A β ϕ w) (hsrc : srcOf A te.pty x = some (ob, new)) (hob : ob) (hk : SV.ok β x) (hal : ∀ i hl, lk A1 i = some hl → hl ≠ .dead → ∃ hl0, lk A i = some hl0 ∧ Alike hl hl0)
    (hB : (es.length + new.length) * te.bytes ≤ LIM) (hok : joinOk te.pty A1 x) :
    ∃ v' w' f' ϕ', (Builtin.append_ #[t, u] ty #[v, SV.val β x]).run P w = .ok v' w' ∧ Holds w0.heap.size X F ((n, .arr (joinB te.pty o1 A1 x).1 te.pty (es ++ new) .no) :: (joinB te.pty o1 A1 x).2) (upd β n (gv v')) (upd ϕ' n f') w' ∧
      Bd (n + 1) (upd β n (gv v')) ((n, .arr (joinB te.pty o1 A1 x).1 te.pty (es ++ new) .no) :: (joinB te.pty o1 A1 x).2) ∧ Fr w0 X w' := by
  have idA : ∀ i hl, lk A1 i = some hl → hl ≠ .dead → ∃ hl1, lk A1 i = some hl1 ∧ hl1 ≠ .dead ∧ ∀ b ∈ owned (ϕ1 i) hl, b ∈ owned (ϕ1 i) hl1 := fun i hl hi hdd => ⟨hl, hi, hdd, fun _ h => h⟩
  have plain : ∀ cells, Lv w (flatT te.pty new.length) (flatP new) cells [] → (o1 = .dp → Lo w (flatT te.pty new.length) (flatP new) cells []) → (∀ e ∈ new, Shp te.pty e) → (∀ w1, (Builtin.lenOf (SV.val β x)).run P w1 = .ok new.length w1) →
      (∀ w1, w1.heap = w.heap → (Builtin.firstCells te.pty.wd new.length (SV.val β x)).run P w1 = .ok cells.toArray w1) →
      ∃ v' w' f' ϕ', (Builtin.append_ #[t, u] ty #[v, SV.val β x]).run P w = .ok v' w' ∧ Holds w0.heap.size X F ((n, .arr o1 te.pty (es ++ new) .no) :: A1) (upd β n (gv v')) (upd ϕ' n f') w' ∧ Bd (n + 1) (upd β n (gv v')) ((n, .arr o1 te.pty (es ++ new) .no) :: A1) ∧ Fr w0 X w' := by
    intro cells h1 h2 h3 h4 h5
    obtain ⟨v', w', f', r⟩ := app_core (P := P) (ty := ty) tg hw hu htu hd hTe h1 h3 h4 h5 hB tg.ho tg.hp tg.hb idA (fun e => ⟨e, h2 e, by simp, fun _ _ _ _ _ _ => by simp, by simp⟩) (by simp) (by simp) (by simp)
    exact ⟨v', w', f', ϕ1, r⟩
  obtain ⟨cells0, fx0, s1, s2, s3, s4, s5, s6, s7, s8⟩ := src_sound (P := P) hsrc hob hp hk
  by_cases hf : flatB te.pty = true
  · have hjo : joinB te.pty o1 A1 x = (o1, A1) := by simp [joinB, hf]
    rw [hjo]
    have h0 := flat_fp s1 (flatT_ty hf _)
    subst h0
    obtain ⟨fs, l1, l2⟩ := lo_flat (O := OwnF w) s1 (flatT_ty hf _)
    exact plain cells0 s1 (fun _ => ⟨fs, l1.symm, l2⟩) s2 s4 s5
  · by_cases hx : ∃ i, x = .sl i
    · obtain ⟨i, rfl⟩ := hx
      simp only [joinOk, joinB, hf, Bool.false_eq_true, if_false] at hok ⊢
      have now : ∀ (o' : Own) (T' : PTy) (es' : List PV) (p' : Pth), lk A1 i = some (.arr o' T' es' p') → (∀ k, o' ≠ .cs k) → srcOf A1 te.pty (.sl i) = some (ob, new) ∧ T' = te.pty ∧ new = es' := by
        intro o' T' es' p' h1 hnc
        obtain ⟨hl0, h2, h3⟩ := hal i _ h1 (by simp)
        simp only [srcOf, h2] at hsrc
        cases hl0 with
        | arr o0 T0 es0 p0 =>
          obtain ⟨rfl, rfl, _, h4⟩ := h3
          have hnc0 : ∀ k, o0 ≠ .cs k := fun k e => by
            obtain ⟨k', e'⟩ := h4 ⟨k, e⟩
            exact hnc k' e'
          have hs1 : srcOf A1 te.pty (.sl i) = some (T' = te.pty, es') := by
            simp only [srcOf, h1] <;> (cases o' <;> first | rfl | exact absurd rfl (hnc _))
          have hs2 : some (ob, new) = some (T' = te.pty, es') := by
            rw [← hsrc]
            cases o0 <;> first | rfl | exact absurd rfl (hnc0 _)
          simp only [Option.some.injEq, Prod.mk.injEq] at hs2
          obtain ⟨rfl, rfl⟩ := hs2
          exact ⟨hs1, hob, rfl⟩
        | _ => simp [Alike] at h3
      have beh : ∀ (o' : Own) (p' : Pth), lk A1 i = some (.arr o' te.pty new p') → srcOf A1 te.pty (.sl i) = some (ob, new) → (o' = .dp ∨ o' = .sh ∨ o' = .vw []) → ∃ cells fx, Lv w (flatT te.pty new.length) (flatP new) cells fx ∧ (∀ w1, (Builtin.lenOf (SV.val β (.sl i))).run P w1 = .ok new.length w1) ∧
          (∀ w1, w1.heap = w.heap → (Builtin.firstCells te.pty.wd new.length (SV.val β (.sl i))).run P w1 = .ok cells.toArray w1) ∧ (∀ b ∈ fx, b ∈ ϕ1 i) ∧ (∀ b ∈ fx, b ∉ owned f0 (.arr o1 te.pty es .no)) ∧ (∀ b ∈ fx, b < w.heap.size ∧ (b ∈ F ∨ w0.heap.size ≤ b)) ∧
          ((∃ b, ϕ1 i = b :: fx) ∨ fx = []) ∧ (o' = .dp → Lo w (flatT te.pty new.length) (flatP new) cells fx) := by
        intro o' p' h1 h2 ho'
        obtain ⟨cells, fx, t1, t2, t3, t4, t5, t6, t7, t8⟩ := src_sound (P := P) h2 hob tg.hp hk
        have hsub : ∀ b ∈ fx, b ∈ ϕ1 i := by
          intro b hb
          rcases t7 i rfl with ⟨b0, e⟩ | e
          · rw [e]; exact List.mem_cons_of_mem _ hb
          · rw [e] at hb; cases hb
        exact ⟨cells, fx, t1, t4, t5, hsub, fun b hb hm => tg.ap i _ h1 (by simp) b (hsub b hb) hm, fun b hb => ⟨tg.hp.inb h1 (by simp) b (hsub b hb), tg.hp.all _ _ h1 trivial b (hsub b hb)⟩, t7 i rfl, fun e => by subst e; exact t8 i p' new rfl h1⟩
      split at hok
      · rename_i T' es' p' h1
        obtain ⟨hs, rfl, rfl⟩ := now _ _ _ _ h1 (by simp)
        obtain ⟨cells, fx, t1, t2, t3, t4, t5, t6, t7, t8⟩ := beh _ _ h1 hs (.inl rfl)
        have hnd : (ϕ1 i).Nodup := tg.hp.nd _ _ h1
        have hndx : fx.Nodup := by
          rcases t7 with ⟨b, e⟩ | e
          · rw [e] at hnd; exact (List.nodup_cons.1 hnd).2
          · rw [e]; simp
        have hst := tg.hp.struck [i]
        have hbst := strike_bd tg.hb [i]
        have hap : Apart (strike [i] A1) ϕ1 (ϕ1 i) := strike_apart tg.hp fun b hb => ⟨i, by simp, _, h1, by simpa [owned] using hb⟩
        simp only [h1]
        rcases tg.ho with ho1 | ho1
        · -- all owned
          subst ho1
          obtain ⟨v', w', f', r⟩ := app_core (P := P) (ty := ty) tg hw hu htu hd hTe t1 s2 t2 t3 hB (.inl rfl) hst hbst (fun j hl hj hdd => ⟨hl, (strike_lk hj hdd).1, hdd, fun _ h => h⟩)
            (fun _ => ⟨rfl, t8 rfl, hndx, hap.mono t4, fun b hb => tg.hp.own _ _ h1 b (by simpa [owned] using t4 b hb)⟩) t5
            (fun j hl hj b hb hm => by
              by_cases hdd : hl = .dead
              · subst hdd; simp [owned] at hb
              · exact hap j hl hj hdd b (owned_sub b hb) (t4 b hm)) t6
          exact ⟨v', w', f', ϕ1, r⟩
        · subst ho1
          have hsat : HLSat w (β i) β (ϕ1 i) (.arr .sh te.pty new .no) := ownD_S (tg.hp.sat _ _ h1)
          have hid : upd ϕ1 i (ϕ1 i) = ϕ1 := by funext k; unfold upd; split <;> simp_all
          have hput := hst.put (A' := set1 (strike [i] A1) i (.arr .sh te.pty new .no)) (n := i) (fun j => lk_set1' _ _ _) (fun hl hi => strike_dead (by simp) hi) hsat
            (fun b hb => tg.hp.own _ _ h1 b (by simpa [owned] using owned_sub b hb)) (fun _ b hb => tg.hp.all _ _ h1 trivial b hb)
            (by intro b r e; rw [e] at hnd; exact (List.nodup_cons.1 hnd).1) (hap.mono fun b hb => owned_sub b hb)
            (fun j hl hj _ b hb hm => by
              by_cases hdd : hl = .dead
              · subst hdd; simp [owned] at hb
              · exact hap j hl hj hdd b (owned_sub b hb) hm) trivial (fun _ _ _ e => by cases e) (by simp [roots])
          rw [hid] at hput
          have hbput := bd_put (A' := set1 (strike [i] A1) i (.arr .sh te.pty new .no)) hbst (fun j => lk_set1' _ _ _) (tg.hb _ _ h1).1 (show HL.ltOk n β (.arr .sh te.pty new .no) from trivial)
          have hcase : ∀ j hl, lk (set1 (strike [i] A1) i (.arr .sh te.pty new .no)) j = some hl → (j = i ∧ hl = .arr .sh te.pty new .no) ∨ (j ≠ i ∧ lk (strike [i] A1) j = some hl) := by
            intro j hl hj
            rw [lk_set1'] at hj
            split at hj
            · rename_i e; cases hj; exact .inl ⟨e, rfl⟩
            · rename_i e; exact .inr ⟨e, hj⟩
          obtain ⟨v', w', f', r⟩ := app_core (P := P) (ty := ty) tg hw hu htu hd hTe t1 s2 t2 t3 hB (.inr rfl) hput hbput
            (fun j hl hj hdd => by
              rcases hcase j hl hj with ⟨rfl, rfl⟩ | ⟨hne, hj'⟩
              · exact ⟨_, h1, by simp, fun b hb => by simpa [owned] using owned_sub b hb⟩
              · exact ⟨hl, (strike_lk hj' hdd).1, hdd, fun _ h => h⟩) (fun e => by cases e) t5
            (fun j hl hj b hb hm => by
              rcases hcase j hl hj with ⟨rfl, rfl⟩ | ⟨hne, hj'⟩
              · rcases t7 with ⟨b0, e⟩ | e
                · simp only [owned, e, List.take_succ_cons, List.take_zero, List.mem_singleton] at hb
                  subst hb
                  rw [e] at hnd; exact (List.nodup_cons.1 hnd).1 hm
                · rw [e] at hm; cases hm
              · by_cases hdd : hl = .dead
                · subst hdd; simp [owned] at hb
                · exact hap j hl hj' hdd b (owned_sub b hb) (t4 b hm)) t6
          exact ⟨v', w', f', ϕ1, r⟩
      · -- what lies behind the operand is shared
        rename_i T' es' p' h1
        obtain ⟨hs, rfl, rfl⟩ := now _ _ _ _ h1 (by simp)
        obtain ⟨cells, fx, t1, t2, t3, t4, t5, t6, t7, t8⟩ := beh _ _ h1 hs (.inr (.inl rfl))
        simp only [h1]
        obtain ⟨v', w', f', r⟩ := app_core (P := P) (ty := ty) tg hw hu htu hd hTe t1 s2 t2 t3 hB (.inr rfl) tg.hp tg.hb idA (fun e => by cases e) t5
          (fun j hl hj b hb hm => by
            by_cases hji : j = i
            · subst hji
              rw [h1] at hj; cases hj
              have hnd := tg.hp.nd _ _ h1
              rcases t7 with ⟨b0, e⟩ | e
              · simp only [owned, e, List.take_succ_cons, List.take_zero, List.mem_singleton] at hb
                subst hb
                exact hnd _ _ e hm
              · rw [e] at hm; cases hm
            · exact tg.hp.dj j i hl _ hj h1 hji (by simp [roots]) (by simp) b hb (t4 b hm)) t6
        exact ⟨v', w', f', ϕ1, r⟩
      · rename_i T' es' p' h1
        obtain ⟨hs, rfl, rfl⟩ := now _ _ _ _ h1 (by simp)
        obtain ⟨cells, fx, t1, t2, t3, t4, t5, t6, t7, t8⟩ := beh _ _ h1 hs (.inr (.inr rfl))
        simp only [h1]
        obtain ⟨v', w', f', r⟩ := app_core (P := P) (ty := ty) tg hw hu htu hd hTe t1 s2 t2 t3 hB (.inr rfl) tg.hp tg.hb idA (fun e => by cases e) t5
          (fun j hl hj b hb hm => by
            by_cases hji : j = i
            · subst hji; rw [h1] at hj; cases hj; simp [owned] at hb
            · exact tg.hp.dj j i hl _ hj h1 hji (by simp [roots]) (by simp) b hb (t4 b hm)) t6
        exact ⟨v', w', f', ϕ1, r⟩
      · exact hok.elim
    · have h0 := s6 fun h e => hx ⟨h, e⟩
      subst h0
      have hjo : joinB te.pty o1 A1 x = (o1, A1) := by
        simp only [joinB, hf, Bool.false_eq_true, if_false]
        cases x <;> first | rfl | exact absurd ⟨_, rfl⟩ hx
      rw [hjo]
      refine plain cells0 s1 (fun _ => ?_) s2 s4 s5
      cases x with
      | str l =>
        simp only [srcOf, Option.some.injEq, Prod.mk.injEq] at hsrc
        obtain ⟨h1, _⟩ := hsrc
        rw [← h1] at hob
        exact absurd (by rw [hob]; rfl) hf
      | nils =>
        simp only [srcOf, Option.some.injEq, Prod.mk.injEq] at hsrc
        obtain ⟨_, rfl⟩ := hsrc
        have : cells0 = [] := List.eq_nil_of_length_eq_zero (by have := s1.lens.2; simpa [flatP] using this)
        subst this
        exact ⟨[], rfl, .nil⟩
      | sl i => exact absurd ⟨i, rfl⟩ hx
      | _ => simp [srcOf] at hsrc
theorem s_append {c : Call} {vs : List SV} {ob : Prop} (hT : EnvTy P E) (ho : o.op = .call c) (hc : c.callee = .builtin .append) (hvs : evs S true c.args.toList = some (ob, vs))
    (hR : builtinRes E S true .append c.argTypes.toList ob vs = some R) (sat : Sat N w0 X F S β ϕ a w) (hob : R.ob) : Snd P w0 X F S β ϕ o a w R := by
  obtain ⟨e1, e2⟩ := evs_sound hvs sat
  have key : ∃ t u s x tu, c.argTypes.toList = [t, u] ∧ vs = [s, x] ∧ lk E.ty u = some tu ∧ appRes E S true (ob ∧ (tu.d = .slice tu.el ∨ tu.d = .string)) t s x = some R := by
    unfold builtinRes at hR
    split at hR
    case h_3 =>
      rename_i t u s x _ ht
      split at hR
      · rename_i tu htu
        exact ⟨t, u, s, x, tu, ht, rfl, htu, hR⟩
      · cases hR
    all_goals first | (exfalso; rename_i hb; simp at hb; done) | (exfalso; rename_i hb _; simp at hb; done) | (exfalso; rename_i hb _ _; simp at hb; done) | (exfalso; rename_i hb _ _ _; simp at hb; done) | cases hR
  obtain ⟨t, u, s, x, tu, hat, rfl, htu, happ⟩ := key
  have hat2 : c.argTypes = #[t, u] := by apply Array.ext'; simpa using hat
  have htu2 := (hT _ _ htu).und
  unfold appRes at happ
  split at happ
  · cases happ
  · rename_i ti hti
    split at happ
    · cases happ
    · rename_i te hte
      have hTe := hT _ _ hte
      split at happ
      · cases happ
      · rename_i o' new hsrc
        split at happ
        · -- nil
          cases happ
          obtain ⟨_, ⟨q1, q2⟩, q3, q4, q5, q6, q7⟩ := hob
          obtain ⟨consts, hr⟩ := run_builtin ho hc hvs q1 sat
          have hk := (e2 rfl q1).2
          have hu := (hT _ _ hti).und
          rw [q5] at hu
          obtain ⟨v', w', f', ϕ', r1, r2, r3, r4⟩ := app_join (P := P) (ty := o.type) (target_nil sat.hp sat.hb) sat.fr hu htu2 q2 hTe sat.hp hsrc q3 hk.2.1 (fun i hl hi _ => ⟨hl, hi, .refl _⟩) (by simpa using q4) q7
          refine ⟨trivial, v', w', _, _, .inl ?_, ⟨fun _ => by simp only [SV.val, upd_eq, gv], fun h hh => upd_lt _ _ _ hh, r2, r3, Nat.lt_succ_self _, trivial, Nat.le_succ _, r4⟩, fun h => by simp [stillP, convP, ho, hc] at h, fun h => by simp [growP, ho, hc] at h⟩
          rw [hr]
          simp [builtin, hat2, SV.vals, SV.val, r1]
        · -- a handle
          rename_i h
          split at happ
          · rename_i ow T es p hl
            cases happ
            obtain ⟨_, ⟨q1, q2⟩, q3, q4, q5, q6, q7, q8, q9, q10⟩ := hob
            subst q6
            obtain ⟨consts, hr⟩ := run_builtin ho hc hvs q1 sat
            have hk := (e2 rfl q1).2
            have hu := (hT _ _ hti).und
            rw [q4] at hu
            obtain ⟨ϕ1, a1, a2, a3, _⟩ := prom_sound sat.hp sat.hb h
            have how : ow = .dp ∨ ow = .sh := by cases ow <;> simp [ownO] at q8 <;> simp
            have tg := target_of a1 a2 hl how
            obtain ⟨v', w', f', ϕ', r1, r2, r3, r4⟩ := app_join (P := P) (ty := o.type) tg sat.fr hu htu2 q2 hTe sat.hp hsrc q3 hk.2.1 (fun i hl hi hd => a3 i hl (strike_lk hi hd).1 hd) q7 q10
            have hle : es.length ≤ LIM := by
              rcases how with rfl | rfl
              · exact (lv_len (OwnD.lv (a1.sat _ _ hl))).1
              · exact (lv_len (OwnS.lv (a1.sat _ _ hl))).1
            refine ⟨hle, v', w', _, _, .inl ?_, ⟨fun _ => by simp only [SV.val, upd_eq, gv], fun h hh => upd_lt _ _ _ hh, r2, r3, Nat.lt_succ_self _, trivial, Nat.le_succ _, r4⟩, fun h => by simp [stillP, convP, ho, hc] at h, fun h => by simp [growP, ho, hc] at h⟩
            rw [hr]
            simp [builtin, hat2, SV.vals, SV.val, r1]
          · cases happ
        · cases happ
end
end Go.Proofs.YtkofjkjcbljkdaaGreatDoor
end

section
namespace Go.Proofs.YtkofjkjcbljkdaaGreatDoor
variable [LaidG]
set_option linter.unusedVariables false
def ArgB (w : World) (T : PTy) (p : PV) (v : Value) (f fl : List Nat) : Prop :=
  match T with
  | .agg ts => ∃ qs cs, p = .agg qs ∧ v = .agg cs.toArray ∧ Lv w ts qs cs f ∧ fl = f
  | .box ts => ∃ qs cs b t pre post, p = .agg qs ∧ v = .pointer (some ⟨b, pre.length, none⟩) ∧ w.heap[b]? = some (.cells (pre ++ cs ++ post).toArray t (0, 0)) ∧ Lv w ts qs cs fl ∧ f = b :: fl
  | .abx T => ∃ es b t c, p = .list es ∧ v = .pointer (some ⟨b, 0, none⟩) ∧ w.heap[b]? = some (.cells c t (0, 0)) ∧ flatB T = true ∧ (∀ e ∈ es, Shp T e) ∧ Lv w (flatT T es.length) (flatP es) c.toList [] ∧ f = [b] ∧ fl = []
  | .fn _ _ => False
  | T => Lv w [T] [p] [v] f ∧ fl = f
inductive ArgBs (w : World) : List PTy → List PV → List Value → List Nat → List Nat → Prop
  | nil : ArgBs w [] [] [] [] []
  | cons {t ts p ps v vs f g fl gl} : ArgB w t p v f fl → ArgBs w ts ps vs g gl → ArgBs w (t :: ts) (p :: ps) (v :: vs) (f ++ g) (fl ++ gl)
def ArgV (w : World) (T : PTy) (p : PV) (v : Value) (f fl : List Nat) : Prop :=
  match T with
  | .fn g ts => ∃ qs cs, p = .agg qs ∧ v = .func (.func g) #[] cs.toArray ∧ ArgBs w ts qs cs f fl
  | T => ArgB w T p v f fl
def ArgM (w : World) (T : PTy) (p : PV) (v : Value) (f : List Nat) : Prop :=
  match T with
  | .agg ts => ∃ qs cs fs, p = .agg qs ∧ v = .agg cs.toArray ∧ LoD w ts qs cs fs ∧ f = fs.flatten
  | .list T => ∃ es, p = .list es ∧ OwnD w v T es f
  | _ => False
def ArgX (w : World) (T : PTy) (p : PV) (v : Value) (f : List Nat) : Prop :=
  match T with
  | .box ts => ∃ qs cs fs b t pre post, p = .agg qs ∧ v = .pointer (some ⟨b, pre.length, none⟩) ∧ w.heap[b]? = some (.cells (pre ++ cs ++ post).toArray t (0, 0)) ∧ LoD w ts qs cs fs ∧ f = b :: fs.flatten
  | .abx T => ∃ es b t c, p = .list es ∧ v = .pointer (some ⟨b, 0, none⟩) ∧ w.heap[b]? = some (.cells c t (0, 0)) ∧ flatB T = true ∧ (∀ e ∈ es, Shp T e) ∧ Lv w (flatT T es.length) (flatP es) c.toList [] ∧ f = [b]
  | _ => False
def ArgS (w : World) (T : PTy) (p : PV) (v : Value) (f : List Nat) (b : Nat) : Prop :=
  match T with
  | .box ts => ∃ qs cs t pre post, p = .agg qs ∧ v = .pointer (some ⟨b, pre.length, none⟩) ∧ w.heap[b]? = some (.cells (pre ++ cs ++ post).toArray t (0, 0)) ∧ Lv w ts qs cs f
  | _ => False
inductive KpS : List PTy → List PV → List Value → List Value → Prop
  | nil : KpS [] [] [] []
  | int {k n Ts ps c cs cs'} : inR k n → KpS Ts ps cs cs' → KpS (.int k :: Ts) (.int k n :: ps) (c :: cs) (.int k n :: cs')
  | bool {b Ts ps c cs cs'} : KpS Ts ps cs cs' → KpS (.bool :: Ts) (.bool b :: ps) (c :: cs) (.bool b :: cs')
  | str {l Ts ps c cs cs'} : l.length ≤ LIM → KpS Ts ps cs cs' → KpS (.str :: Ts) (.str l :: ps) (c :: cs) (.string ⟨l.toArray⟩ :: cs')
  | list {T p Ts ps c cs cs'} : KpS Ts ps cs cs' → KpS (.list T :: Ts) (p :: ps) (c :: cs) (c :: cs')
inductive ArgsV (w : World) : List (Md × PTy) → List PV → List Value → List Nat → List Nat → List Nat → Prop
  | nil : ArgsV w [] [] [] [] [] []
  | rd {t ts p ps v vs f fs fl fls ms} : ArgV w t p v f fl → ArgsV w ts ps vs fs fls ms → ArgsV w ((.rd, t) :: ts) (p :: ps) (v :: vs) (f ++ fs) (fl ++ fls) ms
  | mt {t ts p ps v vs f fs fls ms} : ArgM w t p v f → ArgsV w ts ps vs fs fls ms → ArgsV w ((.mt, t) :: ts) (p :: ps) (v :: vs) fs fls (f ++ ms)
  | ow {t ts p ps v vs f fs fls ms} : ArgM w t p v f → ArgsV w ts ps vs fs fls ms → ArgsV w ((.ow, t) :: ts) (p :: ps) (v :: vs) fs fls (f ++ ms)
  | bx {t ts p ps v vs f fs fls ms} : ArgX w t p v f → ArgsV w ts ps vs fs fls ms → ArgsV w ((.bx, t) :: ts) (p :: ps) (v :: vs) fs fls (f ++ ms)
  | bs {t ts p ps v vs b f fs fls ms} : ArgS w t p v f b → ArgsV w ts ps vs fs fls ms → ArgsV w ((.bs, t) :: ts) (p :: ps) (v :: vs) (f ++ fs) (f ++ fls) (b :: ms)
def OutX (w w' : World) (T : PTy) (p : PV) (v : Value) (f : List Nat) : Prop :=
  match T with
  | .box ts => ∃ qs cs cs' fs b t t' pre post, p = .agg qs ∧ v = .pointer (some ⟨b, pre.length, none⟩) ∧ w.heap[b]? = some (.cells (pre ++ cs ++ post).toArray t (0, 0)) ∧ cs.length = ts.length ∧ w'.heap[b]? = some (.cells (pre ++ cs' ++ post).toArray t' (0, 0)) ∧ LoD w' ts qs cs' fs ∧ f = b :: fs.flatten
  | .abx T => ∃ es b t c, p = .list es ∧ v = .pointer (some ⟨b, 0, none⟩) ∧ w'.heap[b]? = some (.cells c t (0, 0)) ∧ flatB T = true ∧ (∀ e ∈ es, Shp T e) ∧ Lv w' (flatT T es.length) (flatP es) c.toList [] ∧ f = [b]
  | _ => False
def OutS (w w' : World) (T : PTy) (p : PV) (v : Value) (b : Nat) : Prop :=
  match T with
  | .box ts => ∃ qs cs cs' t t' pre post, p = .agg qs ∧ v = .pointer (some ⟨b, pre.length, none⟩) ∧ w.heap[b]? = some (.cells (pre ++ cs ++ post).toArray t (0, 0)) ∧ cs.length = ts.length ∧ w'.heap[b]? = some (.cells (pre ++ cs' ++ post).toArray t' (0, 0)) ∧ KpS ts qs cs cs'
  | _ => False
inductive OutV (w w' : World) : List (Md × PTy) → List PV → List Value → List Nat → Prop
  | nil : OutV w w' [] [] [] []
  | rd {t ts ps v vs ms} : OutV w w' ts ps vs ms → OutV w w' ((.rd, t) :: ts) ps (v :: vs) ms
  | ow {t ts ps v vs ms} : OutV w w' ts ps vs ms → OutV w w' ((.ow, t) :: ts) ps (v :: vs) ms
  | mt {t ts p ps v vs f ms} : ArgM w' t p v f → OutV w w' ts ps vs ms → OutV w w' ((.mt, t) :: ts) (p :: ps) (v :: vs) (f ++ ms)
  | bx {t ts p ps v vs f ms} : OutX w w' t p v f → OutV w w' ts ps vs ms → OutV w w' ((.bx, t) :: ts) (p :: ps) (v :: vs) (f ++ ms)
  | bs {t ts p ps v vs b ms} : OutS w w' t p v b → OutV w w' ts ps vs ms → OutV w w' ((.bs, t) :: ts) (p :: ps) (v :: vs) (b :: ms)
def RetV (w : World) (T : PTy) (p : PV) (v : Value) (f : List Nat) : Prop :=
  match T with
  | .agg ts => ∃ qs cs fs, p = .agg qs ∧ v = .agg cs.toArray ∧ LoD w ts qs cs fs ∧ f = fs.flatten
  | T => ∃ fs, LoD w [T] [p] [v] fs ∧ f = fs.flatten
inductive RetVs (w : World) : List PTy → List PV → List Value → List Nat → Prop
  | nil : RetVs w [] [] [] []
  | cons {t ts p ps v vs f g} : RetV w t p v f → RetVs w ts ps vs g → RetVs w (t :: ts) (p :: ps) (v :: vs) (f ++ g)
def RetN (w : World) (T : PTy) (p : PV) (v : Value) (f : List Nat) : Prop :=
  match T with
  | .agg ts => ∃ qs cs, p = .agg qs ∧ v = .agg cs.toArray ∧ Lv w ts qs cs f
  | T => Lv w [T] [p] [v] f
inductive RetNs (w : World) : List PTy → List PV → List Value → List Nat → Prop
  | nil : RetNs w [] [] [] []
  | cons {t ts p ps v vs f g} : RetN w t p v f → RetNs w ts ps vs g → RetNs w (t :: ts) (p :: ps) (v :: vs) (f ++ g)
def packR : List Value → Value
  | [v] => v
  | vs => .tuple vs.toArray
def Done (w : World) (s : FSpec) (ps : List PV) (vs : List Value) (fl ms : List Nat) (rvs : List Value) (w' : World) : Prop :=
  Fr w ms w' ∧ ((s.fresh = true ∧ ∃ fr mo, RetVs w' s.ret (s.res ps) rvs fr ∧ OutV w w' s.args (s.out ps) vs mo ∧ (fr ++ mo).Nodup ∧ ∀ b ∈ fr ++ mo, b ∈ ms ∨ w.heap.size ≤ b) ∨
    (s.fresh = false ∧ allRd s.args = true ∧ ∃ fr, RetNs w' s.ret (s.res ps) rvs fr ∧ ∀ b ∈ fr, b ∈ fl ∨ w.heap.size ≤ b))
def Meets (P : Program) (f : FuncId) (s : FSpec) : Prop :=
  ∀ (w : World) (ps : List PV) (vs : List Value) (fs fl ms : List Nat), ArgsV w s.args ps vs fs fl ms → ms.Nodup → (∀ b ∈ ms, b ∉ fs) → s.pre ps → GlOk w ms →
    Calls P f vs.toArray w fun e w' => ∃ rvs, e = .returned (packR rvs) ∧ Done w s ps vs fl ms rvs w'
structure EnvOk (P : Program) (E : Env) : Prop where
  ty : EnvTy P E
  fn : ∀ f cs s, findFn E.fn f cs = some s → Meets P f s ∧ ∃ fn, P.funcs[f]? = some fn ∧ fn.body.isNone = false ∧ (fn.name == "runtime.NumGoroutine") = false
section
variable {P : Program} {E : Env} {N : Nat} {w0 : World} {X F : List Nat} {S : St} {β : Nat → GV} {ϕ : Nat → List Nat} {a : Act} {w w' : World} {o : Oper} {R : RR} {A : Hp} {B : Nat}
structure From (A : Hp) (ϕ : Nat → List Nat) (hs f fl : List Nat) : Prop where
  all : ∀ b ∈ f, ∃ i ∈ hs, ∃ hl, lk A i = some hl ∧ hl ≠ .dead ∧ b ∈ ϕ i
  ls : ∀ b ∈ fl, ∃ i ∈ hs, ∃ hl, lk A i = some hl ∧ isL hl ∧ b ∈ ϕ i
  sub : ∀ b ∈ fl, b ∈ f
theorem From.app {hs hs' f f' fl fl' : List Nat} (h : From A ϕ hs f fl) (h' : From A ϕ hs' f' fl') : From A ϕ (hs ++ hs') (f ++ f') (fl ++ fl') := by
  refine ⟨fun b hb => ?_, fun b hb => ?_, fun b hb => ?_⟩
  · rcases List.mem_append.1 hb with hb | hb
    · obtain ⟨i, hi, e⟩ := h.all b hb; exact ⟨i, by simp [hi], e⟩
    · obtain ⟨i, hi, e⟩ := h'.all b hb; exact ⟨i, by simp [hi], e⟩
  · rcases List.mem_append.1 hb with hb | hb
    · obtain ⟨i, hi, e⟩ := h.ls b hb; exact ⟨i, by simp [hi], e⟩
    · obtain ⟨i, hi, e⟩ := h'.ls b hb; exact ⟨i, by simp [hi], e⟩
  · rcases List.mem_append.1 hb with hb | hb
    · simp [h.sub b hb]
    · simp [h'.sub b hb]
theorem resLs_isA : ∀ {ts : List PTy} {xs : List SV} {ob : Prop} {ps : List PV}, resLs A ts xs = some (ob, ps) → ∀ i ∈ slsOf xs, ∃ hl, lk A i = some hl ∧ isL hl
  | [], [], ob, ps, h, i, hi => by cases hi
  | [], x :: xs, ob, ps, h, i, hi => by cases h
  | t :: ts, [], ob, ps, h, i, hi => by cases h
  | t :: ts, x :: xs, ob, ps, h, i, hi => by
    simp only [resLs] at h
    split at h
    · rename_i o1 p o2 qs h1 h2
      cases x <;> simp only [slsOf] at hi <;> try exact resLs_isA h2 i hi
      rcases List.mem_cons.1 hi with rfl | hi
      · cases t <;> simp only [resL, reduceCtorEq] at h1
        split at h1
        · cases h1
        · rename_i hl; exact ⟨_, hl, trivial⟩
        · cases h1
      · exact resLs_isA h2 i hi
    · cases h
theorem resLs_from {ts : List PTy} {xs : List SV} {ob : Prop} {ps : List PV} (h : resLs A ts xs = some (ob, ps)) (hob : ob) (hp : Holds B X F A β ϕ w) (hk : SV.oks β xs) : ∃ f, Lv w ts ps (SV.vals β xs) f ∧ From A ϕ (slsOf xs) f f := by
  obtain ⟨f, h1, h2⟩ := resLs_sound h hob hp hk
  refine ⟨f, h1, h2, fun b hb => ?_, fun b hb => hb⟩
  obtain ⟨i, hi, hl, h3, h4, h5⟩ := h2 b hb
  obtain ⟨hl', h6, h7⟩ := resLs_isA h i hi
  rw [h3] at h6; cases h6
  exact ⟨i, hi, hl, h3, h7, h5⟩
theorem From.mono {hs hs' f fl : List Nat} (h : From A ϕ hs f fl) (hh : ∀ i ∈ hs, i ∈ hs') : From A ϕ hs' f fl :=
  ⟨fun b hb => by obtain ⟨i, hi, e⟩ := h.all b hb; exact ⟨i, hh i hi, e⟩, fun b hb => by obtain ⟨i, hi, e⟩ := h.ls b hb; exact ⟨i, hh i hi, e⟩, h.sub⟩
theorem slsOf_take {n m : Nat} {xs : List SV} : ∀ i ∈ slsOf ((xs.drop n).take m), i ∈ slsOf xs := by
  intro i hi
  have key : ∀ (l l' : List SV), (∀ x ∈ l, x ∈ l') → ∀ i ∈ slsOf l, i ∈ slsOf l' := by
    intro l
    induction l with
    | nil => intro l' _ i hi; cases hi
    | cons x l ih =>
      intro l' h i hi
      have mem : ∀ (l : List SV) j, SV.sl j ∈ l → j ∈ slsOf l := by
        intro l
        induction l with
        | nil => intro j h; cases h
        | cons y l ih2 =>
          intro j hj
          rcases List.mem_cons.1 hj with rfl | hj'
          · simp [slsOf]
          · have := ih2 j hj'
            cases y <;> simp [slsOf, this]
      cases x <;> simp only [slsOf] at hi <;> try exact ih l' (fun y hy => h y (by simp [hy])) i hi
      rcases List.mem_cons.1 hi with rfl | hi
      · exact mem l' _ (h _ (by simp))
      · exact ih l' (fun y hy => h y (by simp [hy])) i hi
  exact key _ _ (fun x hx => List.mem_of_mem_drop (List.mem_of_mem_take hx)) i hi
theorem vals_split (β : Nat → GV) (cs : List SV) (off n : Nat) : SV.vals β cs = SV.vals β (cs.take off) ++ (SV.vals β ((cs.drop off).take n) ++ SV.vals β (cs.drop (off + n))) := by
  simp only [SV.vals_map, ← List.map_append]
  rw [← List.drop_drop, List.take_append_drop, List.take_append_drop]
theorem resB_sound {T : PTy} {x : SV} {ob : Prop} {p : PV} (h : resB A T x = some (ob, p)) (hob : ob) (hp : Holds B X F A β ϕ w) (hbx : ∀ i o t cs, lk A i = some (.box o t cs) → SV.oks β cs) (hk : SV.ok β x) :
    ∃ f fl, ArgB w T p (SV.val β x) f fl ∧ From A ϕ (rdHs1 A x) f fl := by
  have leaf : ∀ (h' : resL A T x = some (ob, p)), (∀ f, Lv w [T] [p] [SV.val β x] f → ArgB w T p (SV.val β x) f f) → x.cells = [x] → rdHs1 A x = slsOf x.cells → ∃ f fl, ArgB w T p (SV.val β x) f fl ∧ From A ϕ (rdHs1 A x) f fl := by
    intro h' hA hc hr
    obtain ⟨f, h1, h2⟩ := resLs_from (ts := [T]) (xs := [x]) (ob := ob ∧ True) (ps := [p]) (by simp [resLs, h']) ⟨hob, trivial⟩ hp ⟨hk, trivial⟩
    exact ⟨f, f, hA f h1, by rw [hr, hc]; exact h2⟩
  cases T with
  | agg ts =>
    cases x with
    | agg xs =>
      simp only [resB] at h
      split at h
      · rename_i o ps hps
        simp only [Option.some.injEq, Prod.mk.injEq] at h
        obtain ⟨rfl, rfl⟩ := h
        obtain ⟨f, h1, h2⟩ := resLs_from hps hob hp hk
        exact ⟨f, f, ⟨ps, _, rfl, rfl, h1, rfl⟩, h2⟩
      · cases h
    | _ => simp [resB, resL] at h
  | box ts =>
    cases x with
    | ptr i off =>
      simp only [resB] at h
      split at h
      · rename_i o t cs hl
        split at h
        · rename_i hoff
          split at h
          · rename_i o2 ps hps
            simp only [Option.some.injEq, Prod.mk.injEq] at h
            obtain ⟨rfl, rfl⟩ := h
            obtain ⟨b, t', hb, hϕ, hblk⟩ := hp.sat _ _ hl
            have hoks : SV.oks β ((cs.drop off).take ts.length) := by
              rw [SV.oks_iff]; intro y hy
              exact SV.oks_iff.1 (hbx _ _ _ _ hl) y (List.mem_of_mem_drop (List.mem_of_mem_take hy))
            obtain ⟨f, h1, h2⟩ := resLs_from hps hob hp hoks
            refine ⟨b :: f, f, ⟨ps, _, b, t', (β i).pre ++ SV.vals β (cs.take off), SV.vals β (cs.drop (off + ts.length)) ++ (β i).post, rfl, ?_, ?_, h1, rfl⟩, ?_⟩
            · simp [SV.val, hb, SV.vals_map]; omega
            · rw [hblk]; congr 2
              rw [vals_split β cs off ts.length]; simp [List.append_assoc]
            · refine ⟨fun c hc => ?_, fun c hc => ?_, fun c hc => by simp [hc]⟩
              · rcases List.mem_cons.1 hc with rfl | hc
                · exact ⟨i, by simp [rdHs1], _, hl, by simp, by rw [hϕ]; simp⟩
                · obtain ⟨j, hj, e⟩ := h2.all c hc
                  exact ⟨j, by simp only [rdHs1, hl]; exact List.mem_cons_of_mem _ (slsOf_take j hj), e⟩
              · obtain ⟨j, hj, e⟩ := h2.ls c hc
                exact ⟨j, by simp only [rdHs1, hl]; exact List.mem_cons_of_mem _ (slsOf_take j hj), e⟩
          · cases h
        · cases h
      · cases h
    | _ => simp [resB, resL] at h
  | abx T =>
    cases x with
    | ptr i off =>
      cases off with
      | zero =>
        simp only [resB] at h
        split at h
        · rename_i ow T' es hl
          simp only [Option.some.injEq, Prod.mk.injEq] at h
          obtain ⟨rfl, rfl⟩ := h
          subst hob
          obtain ⟨h1, h2, b, t', c, hv, hϕ, hblk, hL⟩ := hp.sat _ _ hl
          refine ⟨[b], [], ⟨es, b, t', c, rfl, by simp [SV.val, hv], hblk, h1, h2, hL, rfl, rfl⟩, ?_⟩
          refine ⟨fun c hc => ?_, fun c hc => (by cases hc), fun c hc => (by cases hc)⟩
          simp only [List.mem_singleton] at hc
          subst hc
          exact ⟨i, by simp [rdHs1], _, hl, by simp, by rw [hϕ]; simp⟩
        · cases h
      | succ n => simp [resB, resL] at h
    | _ => simp [resB, resL] at h
  | fn g ts => cases x <;> simp [resB, resL] at h
  | opq => cases x <;> simp [resB, resL] at h
  | int k =>
    have h' : resL A (.int k) x = some (ob, p) := by cases x <;> simpa [resB] using h
    cases x <;> first | (simp [resL] at h'; done) | exact leaf h' (fun f hf => ⟨hf, rfl⟩) rfl rfl
  | bool =>
    have h' : resL A .bool x = some (ob, p) := by cases x <;> simpa [resB] using h
    cases x <;> first | (simp [resL] at h'; done) | exact leaf h' (fun f hf => ⟨hf, rfl⟩) rfl rfl
  | str =>
    have h' : resL A .str x = some (ob, p) := by cases x <;> simpa [resB] using h
    cases x <;> first | (simp [resL] at h'; done) | exact leaf h' (fun f hf => ⟨hf, rfl⟩) rfl rfl
  | list T =>
    have h' : resL A (.list T) x = some (ob, p) := by cases x <;> simpa [resB] using h
    cases x <;> first | (simp [resL] at h'; done) | exact leaf h' (fun f hf => ⟨hf, rfl⟩) rfl rfl
theorem resBs_sound : ∀ {ts : List PTy} {xs : List SV} {ob : Prop} {ps : List PV}, resBs A ts xs = some (ob, ps) → ob → Holds B X F A β ϕ w → (∀ i o t cs, lk A i = some (.box o t cs) → SV.oks β cs) → SV.oks β xs →
    ∃ f fl, ArgBs w ts ps (SV.vals β xs) f fl ∧ From A ϕ (rdHsL A xs) f fl
  | [], [], ob, ps, h, hob, hp, hbx, hk => by cases h; exact ⟨[], [], .nil, ⟨by simp, by simp, by simp⟩⟩
  | [], x :: xs, ob, ps, h, hob, hp, hbx, hk => by cases h
  | t :: ts, [], ob, ps, h, hob, hp, hbx, hk => by cases h
  | t :: ts, x :: xs, ob, ps, h, hob, hp, hbx, hk => by
    simp only [resBs] at h
    split at h
    · rename_i o1 p o2 qs h1 h2
      cases h
      obtain ⟨f1, l1, q1, q2⟩ := resB_sound h1 hob.1 hp hbx hk.1
      obtain ⟨f2, l2, r1, r2⟩ := resBs_sound h2 hob.2 hp hbx hk.2
      exact ⟨_, _, .cons q1 r1, q2.app r2⟩
    · cases h
theorem resT_sound {T : PTy} {x : SV} {ob : Prop} {p : PV} (h : resT A T x = some (ob, p)) (hob : ob) (hp : Holds B X F A β ϕ w) (hbx : ∀ i o t cs, lk A i = some (.box o t cs) → SV.oks β cs) (hk : SV.ok β x) :
    ∃ f fl, ArgV w T p (SV.val β x) f fl ∧ From A ϕ (rdHs A x) f fl := by
  by_cases hfn : ∃ g ts, T = .fn g ts
  · obtain ⟨g, ts, rfl⟩ := hfn
    cases x with
    | fn g' xs =>
      simp only [resT] at h
      split at h
      · rename_i o ps hps
        simp only [Option.some.injEq, Prod.mk.injEq] at h
        obtain ⟨rfl, rfl⟩ := h
        obtain ⟨rfl, hob⟩ := hob
        obtain ⟨f, fl, h1, h2⟩ := resBs_sound hps hob hp hbx hk
        exact ⟨f, fl, ⟨ps, _, rfl, rfl, h1⟩, h2⟩
      · cases h
    | _ => simp [resT, resB, resL] at h
  · have h' : resB A T x = some (ob, p) := by
      cases T <;> first | exact absurd ⟨_, _, rfl⟩ hfn | (cases x <;> simpa [resT] using h)
    have hr : rdHs A x = rdHs1 A x := by
      cases x <;> (try rfl)
      exfalso
      cases T <;> first | exact hfn ⟨_, _, rfl⟩ | (simp [resB, resL] at h')
    obtain ⟨f, fl, h1, h2⟩ := resB_sound h' hob hp hbx hk
    refine ⟨f, fl, ?_, by rw [hr]; exact h2⟩
    cases T <;> first | exact absurd ⟨_, _, rfl⟩ hfn | exact h1
end
end Go.Proofs.YtkofjkjcbljkdaaGreatDoor
end

section
namespace Go.Proofs.YtkofjkjcbljkdaaGreatDoor
variable [LaidG]
set_option linter.unusedVariables false
section
variable {P : Program} {E : Env} {N : Nat} {w0 : World} {X F : List Nat} {S : St} {β : Nat → GV} {ϕ : Nat → List Nat} {a : Act} {w w' : World} {o : Oper} {R : RR} {A A' : Hp} {B : Nat}
theorem argsRd : ∀ {ts : List (Md × PTy)} {xs : List SV} {ob : Prop} {ps : List PV}, resTs A ts xs = some (ob, ps) → allRd ts = true → ob → Holds B X F A β ϕ w → (∀ i o t cs, lk A i = some (.box o t cs) → SV.oks β cs) → SV.oks β xs →
    ∃ fs fl, ArgsV w ts ps (SV.vals β xs) fs fl [] ∧ From A ϕ (rdsHs A ts xs) fs fl
  | [], [], ob, ps, h, hr, hob, hp, hbx, hk => by cases h; exact ⟨[], [], .nil, ⟨by simp, by simp, by simp⟩⟩
  | [], x :: xs, ob, ps, h, hr, hob, hp, hbx, hk => by cases h
  | (m, t) :: ts, [], ob, ps, h, hr, hob, hp, hbx, hk => by cases h
  | (m, t) :: ts, x :: xs, ob, ps, h, hr, hob, hp, hbx, hk => by
    cases m <;> simp only [allRd, Bool.false_eq_true] at hr
    simp only [resTs] at h
    split at h
    · rename_i o1 p o2 qs h1 h2
      cases h
      obtain ⟨f1, l1, q1, q2⟩ := resT_sound h1 hob.1 hp hbx hk.1
      obtain ⟨f2, l2, r1, r2⟩ := argsRd h2 hr hob.2 hp hbx hk.2
      exact ⟨_, _, .rd q1 r1, q2.app r2⟩
    · cases h
theorem outV_rd : ∀ {ts : List (Md × PTy)} {ps : List PV} {vs : List Value} {mo : List Nat}, OutV w w' ts ps vs mo → allRd ts = true → mo = [] ∧ ps = [] := by
  intro ts ps vs mo h
  induction h with
  | nil => intro _; exact ⟨rfl, rfl⟩
  | rd _ ih => intro hr; exact ih hr
  | ow _ _ => intro hr; simp [allRd] at hr
  | mt _ _ _ => intro hr; simp [allRd] at hr
  | bx _ _ _ => intro hr; simp [allRd] at hr
  | bs _ _ _ => intro hr; simp [allRd] at hr
theorem introV_own {T : PTy} {p : PV} {v : Value} {f G : List Nat} {n : Nat} (hL : RetV w T p v f) (hp : Holds B X F A β ϕ w) (hb : Bd n β A) (hn : (f ++ G).Nodup) (hw : ∀ b ∈ f, (b ∈ X ∨ B ≤ b) ∧ (b ∈ F ∨ B ≤ b)) (hd : Apart A ϕ (f ++ G)) :
    ∃ β' ϕ', Laid B X F ((introV .dp noP 0 n T p).2.1 ++ A) β β' ϕ ϕ' w n (introV .dp noP 0 n T p).2.2 [(introV .dp noP 0 n T p).1] [v] G := by
  by_cases hT : ∃ ts, T = .agg ts
  · obtain ⟨ts, rfl⟩ := hT
    obtain ⟨qs, cs, fs, rfl, rfl, hL, rfl⟩ := hL
    obtain ⟨β', ϕ', a1, a2, a3, a4, a5, a6, a7, a8, a9⟩ := introL_own noP (fun _ => rfl) ts qs cs fs G 0 n A β ϕ hL hp hb hn hw hd
    exact ⟨β', ϕ', a1, a2, a3, a4, by simp [introV, SV.vals, SV.val, PV.A, a5], ⟨a6, trivial⟩, ⟨a7, trivial⟩, a8, a9⟩
  · have hL' : ∃ fs, LoD w [T] [p] [v] fs ∧ f = fs.flatten := by cases T <;> first | exact hL | exact absurd ⟨_, rfl⟩ hT
    obtain ⟨fs, hL', rfl⟩ := hL'
    have he : introV .dp noP 0 n T p = ((introL .dp noP 0 n [T] [p]).1.headD .nilp, (introL .dp noP 0 n [T] [p]).2.1, (introL .dp noP 0 n [T] [p]).2.2) := by
      cases T <;> first | rfl | exact absurd ⟨_, rfl⟩ hT
    obtain ⟨β', ϕ', a1, a2, a3, a4, a5, a6, a7, a8, a9⟩ := introL_own noP (fun _ => rfl) [T] [p] [v] fs G 0 n A β ϕ hL' hp hb hn hw hd
    have hx : (introL .dp noP 0 n [T] [p]).1 = [(introL .dp noP 0 n [T] [p]).1.headD .nilp] := by cases T <;> simp [introL]
    rw [he]
    rw [hx] at a5 a6 a7
    exact ⟨β', ϕ', a1, a2, a3, a4, a5, a6, a7, a8, a9⟩
theorem introVs_own : ∀ (Ts : List PTy) (ps : List PV) (vs : List Value) (f G : List Nat) (n : Nat) (A : Hp) (β : Nat → GV) (ϕ : Nat → List Nat), RetVs w Ts ps vs f → Holds B X F A β ϕ w → Bd n β A →
    (f ++ G).Nodup → (∀ b ∈ f, (b ∈ X ∨ B ≤ b) ∧ (b ∈ F ∨ B ≤ b)) → Apart A ϕ (f ++ G) →
    ∃ β' ϕ', Laid B X F ((introVs .dp n Ts ps).2.1 ++ A) β β' ϕ ϕ' w n (introVs .dp n Ts ps).2.2 (introVs .dp n Ts ps).1 vs G := by
  intro Ts
  induction Ts with
  | nil =>
    intro ps vs f G n A β ϕ hL hp hb hn hw hd
    cases hL
    exact ⟨β, ϕ, hp, hb, fun _ _ => rfl, fun _ _ => rfl, rfl, trivial, trivial, Nat.le_refl _, (by simpa using hd : Apart A ϕ G)⟩
  | cons T Ts ih =>
    intro ps vs f G n A β ϕ hL hp hb hn hw hd
    cases hL with
    | @cons _ _ p ps' v vs' f g h1 h2 =>
      simp only [List.append_assoc] at hn hd
      obtain ⟨β1, ϕ1, b1, b2, b3, b4, b5, b6, b7, b8, b9⟩ := introV_own (n := n) h1 hp hb hn (fun b hb => hw b (by simp [hb])) hd
      obtain ⟨β', ϕ', a1, a2, a3, a4, a5, a6, a7, a8, a9⟩ := ih ps' vs' g G _ _ _ _ h2 b1 b2 (List.nodup_append.1 hn).2.1 (fun b hb => hw b (by simp [hb])) b9
      refine ⟨β', ϕ', ?_, ?_, fun k hk => (a3 k (by omega)).trans (b3 k hk), fun k hk => (a4 k (by omega)).trans (b4 k hk), ?_, ?_, ?_, ?_, ?_⟩
      · simpa [introVs, List.append_assoc] using a1
      · simpa [introVs, List.append_assoc] using a2
      · simp only [introVs, SV.vals, a5]
        simp only [SV.vals, List.cons.injEq, and_true] at b5
        rw [SV.val_congr a3 _ b6.1, b5]
      · exact ⟨SV.lt_mono a8 _ b6.1, a6⟩
      · exact ⟨SV.ok_congr a3 _ b6.1 b7.1, a7⟩
      · simp only [introVs]; omega
      · simpa [introVs, List.append_assoc] using a9
theorem introV_vw {T : PTy} {p : PV} {v : Value} {f rs : List Nat} {n : Nat} (hL : RetN w T p v f) (hp : Holds B X F A β ϕ w) (hb : Bd n β A) (hv : ViewOk B F A ϕ n f rs) :
    ∃ β' ϕ', Holds B X F ((introV (.vw rs) noP 0 n T p).2.1 ++ A) β' ϕ' w ∧ Bd (introV (.vw rs) noP 0 n T p).2.2 β' ((introV (.vw rs) noP 0 n T p).2.1 ++ A) ∧ (∀ k, k < n → β' k = β k) ∧ (∀ k, k < n → ϕ' k = ϕ k) ∧
      SV.val β' (introV (.vw rs) noP 0 n T p).1 = v ∧ SV.lt (introV (.vw rs) noP 0 n T p).2.2 (introV (.vw rs) noP 0 n T p).1 ∧ SV.ok β' (introV (.vw rs) noP 0 n T p).1 ∧ n ≤ (introV (.vw rs) noP 0 n T p).2.2 := by
  by_cases hT : ∃ ts, T = .agg ts
  · obtain ⟨ts, rfl⟩ := hT
    obtain ⟨qs, cs, rfl, rfl, hL⟩ := hL
    obtain ⟨β', ϕ', a1, a2, a3, a5, a6, a7, a8, a9⟩ := introL_view rs noP ts qs cs f 0 n A β ϕ hL hp hb hv pthsOk_no
    exact ⟨β', ϕ', a1, a2, a3, a9, by simp [introV, SV.val, PV.A, a5], a6, a7, a8⟩
  · have hL' : Lv w [T] [p] [v] f := by cases T <;> first | exact hL | exact absurd ⟨_, rfl⟩ hT
    have he : introV (.vw rs) noP 0 n T p = ((introL (.vw rs) noP 0 n [T] [p]).1.headD .nilp, (introL (.vw rs) noP 0 n [T] [p]).2.1, (introL (.vw rs) noP 0 n [T] [p]).2.2) := by
      cases T <;> first | rfl | exact absurd ⟨_, rfl⟩ hT
    obtain ⟨β', ϕ', a1, a2, a3, a5, a6, a7, a8, a9⟩ := introL_view rs noP [T] [p] [v] f 0 n A β ϕ hL' hp hb hv pthsOk_no
    have hx : (introL (.vw rs) noP 0 n [T] [p]).1 = [(introL (.vw rs) noP 0 n [T] [p]).1.headD .nilp] := by cases T <;> simp [introL]
    rw [he]
    rw [hx] at a5 a6 a7
    simp only [SV.vals, List.cons.injEq, and_true] at a5
    exact ⟨β', ϕ', a1, a2, a3, a9, a5, a6.1, a7.1, a8⟩
theorem introL_vwA {rs : List Nat} : ∀ {Ts : List PTy} {ps : List PV} {j n i : Nat} {hl : HL}, lk (introL (.vw rs) noP j n Ts ps).2.1 i = some hl → n ≤ i ∧ owned ([] : List Nat) hl = [] ∧ (∀ f, owned f hl = []) ∧ (∀ o t cs, hl ≠ .box o t cs) := by
  intro Ts
  induction Ts with
  | nil => intro ps j n i hl h; simp [introL, lk] at h
  | cons T Ts ih =>
    intro ps j n i hl h
    cases ps with
    | nil => cases T <;> simp [introL, lk] at h
    | cons p ps =>
      cases T <;> simp only [introL] at h <;> try exact ih h
      rw [lk_append] at h
      split at h
      · rename_i x hx
        cases h
        obtain ⟨h1, h2⟩ := ih hx
        exact ⟨by omega, h2⟩
      · simp only [lk] at h
        split at h
        · rename_i e
          cases h
          exact ⟨by omega, rfl, fun _ => rfl, by simp⟩
        · cases h
theorem viewOk_more {rs f : List Nat} {n n' : Nat} {D : Hp} {ϕ' : Nat → List Nat} (h : ViewOk B F A ϕ n f rs) (hb : Bd n β A) (hle : n ≤ n') (hD : ∀ i hl, lk D i = some hl → n ≤ i ∧ (∀ f, owned f hl = []) ∧ (∀ o t cs, hl ≠ .box o t cs)) (hϕ : ∀ k, k < n → ϕ' k = ϕ k) : ViewOk B F (D ++ A) ϕ' n' f rs := by
  refine ⟨?_, h.all, ?_, fun r hr => by have := h.lt r hr; omega⟩
  · intro i hl hi hn b hb'
    rw [lk_append] at hi
    split at hi
    · rename_i x hx
      cases hi
      rw [(hD i _ hx).2.1] at hb'; cases hb'
    · rw [hϕ i (hb i hl hi).1] at hb'
      exact h.dj i hl hi hn b hb'
  · intro r hr o t cs hl
    rw [lk_append] at hl
    split at hl
    · rename_i x hx
      cases hl
      exact (hD r _ hx).2.2 o t cs rfl
    · exact h.bx r hr o t cs hl
theorem introVs_vw {rs : List Nat} : ∀ (Ts : List PTy) (ps : List PV) (vs : List Value) (f : List Nat) (n : Nat) (A : Hp) (β : Nat → GV) (ϕ : Nat → List Nat), RetNs w Ts ps vs f → Holds B X F A β ϕ w → Bd n β A → ViewOk B F A ϕ n f rs →
    ∃ β' ϕ', Holds B X F ((introVs (.vw rs) n Ts ps).2.1 ++ A) β' ϕ' w ∧ Bd (introVs (.vw rs) n Ts ps).2.2 β' ((introVs (.vw rs) n Ts ps).2.1 ++ A) ∧ (∀ k, k < n → β' k = β k) ∧
      SV.vals β' (introVs (.vw rs) n Ts ps).1 = vs ∧ SV.lts (introVs (.vw rs) n Ts ps).2.2 (introVs (.vw rs) n Ts ps).1 ∧ SV.oks β' (introVs (.vw rs) n Ts ps).1 ∧ n ≤ (introVs (.vw rs) n Ts ps).2.2 := by
  intro Ts
  induction Ts with
  | nil =>
    intro ps vs f n A β ϕ hL hp hb hv
    cases hL
    exact ⟨β, ϕ, hp, hb, fun _ _ => rfl, rfl, trivial, trivial, Nat.le_refl _⟩
  | cons T Ts ih =>
    intro ps vs f n A β ϕ hL hp hb hv
    cases hL with
    | @cons _ _ p ps' v vs' f g h1 h2 =>
      obtain ⟨β1, ϕ1, b1, b2, b3, b4, b5, b6, b7, b8⟩ := introV_vw (n := n) h1 hp hb (hv.mono fun b hb => by simp [hb])
      have hD : ∀ i hl, lk (introV (.vw rs) noP 0 n T p).2.1 i = some hl → n ≤ i ∧ (∀ f, owned f hl = []) ∧ (∀ o t cs, hl ≠ .box o t cs) := by
        intro i hl hi
        have : ∃ Ts' ps', (introV (.vw rs) noP 0 n T p).2.1 = (introL (.vw rs) noP 0 n Ts' ps').2.1 := by
          cases T <;> exact ⟨_, _, rfl⟩
        obtain ⟨Ts', ps', e⟩ := this
        rw [e] at hi
        obtain ⟨q1, _, q2, q3⟩ := introL_vwA hi
        exact ⟨q1, q2, q3⟩
      obtain ⟨β', ϕ', a1, a2, a3, a5, a6, a7, a8⟩ := ih ps' vs' g _ _ _ _ h2 b1 b2 (viewOk_more (hv.mono fun b hb => by simp [hb]) hb b8 hD b4)
      refine ⟨β', ϕ', ?_, ?_, fun k hk => (a3 k (by omega)).trans (b3 k hk), ?_, ?_, ?_, ?_⟩
      · simpa [introVs, List.append_assoc] using a1
      · simpa [introVs, List.append_assoc] using a2
      · simp only [introVs, SV.vals, a5]
        rw [SV.val_congr a3 _ b6, b5]
      · exact ⟨SV.lt_mono a8 _ b6, a6⟩
      · exact ⟨SV.ok_congr a3 _ b6 b7, a7⟩
      · simp only [introVs]; omega
theorem packV_val {β : Nat → GV} {xs : List SV} {vs : List Value} (h : SV.vals β xs = vs) : packR vs = SV.val β (packV xs) := by
  subst h
  match xs with
  | [] => rfl
  | [x] => rfl
  | x :: y :: r => rfl
theorem packV_lt {n : Nat} {xs : List SV} (h : SV.lts n xs) : SV.lt n (packV xs) := by
  match xs, h with
  | [], h => exact h
  | [x], h => exact h.1
  | x :: y :: r, h => exact h
theorem packV_ok {β : Nat → GV} {xs : List SV} (h : SV.oks β xs) : SV.ok β (packV xs) := by
  match xs, h with
  | [], h => exact h
  | [x], h => exact h.1
  | x :: y :: r, h => exact h
theorem ownersOf_mem {hs : List Nat} {r : Nat} : r ∈ ownersOf A hs ↔ ∃ h ∈ hs, (∃ rs T es p, lk A h = some (.arr (.vw rs) T es p) ∧ r ∈ rs) ∨ (r = h ∧ ∃ o T es p, lk A h = some (.arr o T es p) ∧ ∀ rs, o ≠ .vw rs) := by
  induction hs with
  | nil => simp [ownersOf]
  | cons x l ih =>
    simp only [ownersOf, List.mem_append, ih, List.mem_cons, exists_eq_or_imp]
    refine or_congr ?_ Iff.rfl
    cases hx : lk A x with
    | none => simp
    | some hl =>
      cases hl with
      | arr o T es p => cases o <;> simp [hx]
      | _ => simp
theorem call_enter {c : Call} {f : Operand} {fid : Nat} {caps vs : List SV} {ob : Prop} {fn : Func} (ho : o.op = .call c) (hc : c.callee = .value f) (f3 : a.eval f = SV.val β (.fn fid caps)) (v3 : c.args.toList.map a.eval = SV.vals β vs)
    (hfn : P.funcs[fid]? = some fn) (hbody : fn.body.isNone = false) (hname : (fn.name == "runtime.NumGoroutine") = false) : (execOp a.eval o).run P w = .ok (.enter fid (SV.vals β (vs ++ caps)).toArray) w := by
  have harr : Array.map a.eval c.args = (SV.vals β vs).toArray := by
    rw [← v3]; apply Array.ext'; simp
  have happ : (SV.vals β vs).toArray ++ (SV.vals β caps).toArray = (SV.vals β (vs ++ caps)).toArray := by
    simp [SV.vals_map]
  simp only [execOp, ho, resolve, hc, harr, f3, SV.val, Deferred.ofValue, pure_bind, invoke]
  simp only [Array.empty_append, happ, callFunc, Sem.run_bind, run_program, Result.andThen_ok, hfn, hname, Bool.false_eq_true, if_false, hbody]
  rfl
theorem call_rd {s : FSpec} {ob : Prop} {ps : List PV} {xs : List SV} {fid : Nat} (hm : Meets P fid s) (hps : resTs S.A s.args xs = some (ob, ps)) (hr : allRd s.args = true) (hk : SV.oks β xs) (sat : Sat N w0 X F S β ϕ a w) (hob : (callRd S true s ob ps xs).ob) :
    Calls P fid (SV.vals β xs).toArray w fun e w' => ∃ v β' ϕ', e = .returned v ∧ Post w0 X F S (callRd S true s ob ps xs) β ϕ o.dst v w' β' ϕ' ∧ Fr w [] w' := by
  obtain ⟨q1, _, q3⟩ := hob
  obtain ⟨q1, q2⟩ := q1 rfl
  have hbx : ∀ i o t cs, lk S.A i = some (.box o t cs) → SV.oks β cs := fun i o t cs hi => (sat.hb _ _ hi).2.2
  obtain ⟨fs, fl, hargs, hfrom⟩ := argsRd hps hr q1 sat.hp hbx hk
  refine (hm w ps _ fs fl [] hargs (by simp) (by simp) q2 (sat.gl.now sat.fr (by simp))).mono fun e w' he => ?_
  obtain ⟨rvs, rfl, hFr, hcase⟩ := he
  have hgrow : ∀ b, b < w.heap.size → w'.heap[b]? = w.heap[b]? := fun b hb => hFr.block b hb (by simp)
  have hp' := sat.hp.grow hgrow
  have hfr : Fr w0 X w' := sat.fr.trans hFr (fun x hx => hx) (by simp)
  rcases hcase with ⟨hfresh, fr, mo, hret, hout, hnd, hge⟩ | ⟨hfresh, _, fr, hret, hge⟩
  · obtain ⟨rfl, _⟩ := outV_rd hout hr
    have hge' : ∀ b ∈ fr, w.heap.size ≤ b := fun b hb => by simpa using hge b (by simp [hb])
    obtain ⟨β', ϕ', b1, b2, b3, b4, b5, b6, b7, b8, b9⟩ := introVs_own s.ret (s.res ps) rvs fr [] S.n S.A β ϕ hret hp' sat.hb (by simpa using hnd) (fun b hb => ⟨.inr (Nat.le_trans sat.fr.size (hge' b hb)), .inr (Nat.le_trans sat.fr.size (hge' b hb))⟩)
      (fun i hl hi hd b hb hm => by
        have h1 := sat.hp.inb hi hd b hb
        have h2 := hge' b (by simpa using hm)
        omega)
    simp only [callRd, hfresh, if_true]
    exact ⟨_, β', ϕ', rfl, ⟨fun _ => packV_val b5, b3, b1, b2, packV_lt b6, packV_ok b7, b8, hfr⟩, hFr⟩
  · have hv : ViewOk w0.heap.size F S.A ϕ S.n fr (ownersOf S.A (rdsHs S.A s.args xs)) := by
      refine ⟨?_, ?_, ?_, ?_⟩
      · intro i hl hi hn b hb hm
        by_cases hd : hl = .dead
        · subst hd; simp [owned] at hb
        · rcases hge b hm with h1 | h1
          · obtain ⟨j, hj, hl', e1, e2, e3⟩ := hfrom.ls b h1
            cases hl' <;> simp only [isL] at e2
            rename_i o T es p
            by_cases hij : i = j
            · subst hij
              rw [hi] at e1; cases e1
              refine hn (ownersOf_mem.2 ⟨i, hj, .inr ⟨rfl, o, T, es, p, hi, fun rs e => ?_⟩⟩)
              subst e; simp [owned] at hb
            · refine sat.hp.dj i j hl _ hi e1 hij (fun hr => hn ?_) (by simp) b hb e3
              cases o <;> simp only [roots, List.not_mem_nil] at hr
              exact ownersOf_mem.2 ⟨j, hj, .inl ⟨_, _, _, _, e1, hr⟩⟩
          · have := sat.hp.inb hi hd b (owned_sub b hb); omega
      · intro b hb
        rcases hge b hb with h1 | h1
        · obtain ⟨j, hj, hl', e1, e2, e3⟩ := hfrom.ls b h1
          exact sat.hp.all _ _ e1 e2.isA b e3
        · exact .inr (Nat.le_trans sat.fr.size h1)
      · intro r hr o t cs hc
        obtain ⟨h, hh, ⟨rs, T, es, p, e1, e2⟩ | ⟨rfl, o, T, es, p, e1, e2⟩⟩ := ownersOf_mem.1 hr
        · exact sat.hp.rt h _ e1 r e2 _ _ _ hc
        · rw [e1] at hc; cases hc
      · intro r hr
        obtain ⟨h, hh, ⟨rs, T, es, p, e1, e2⟩ | ⟨rfl, o, T, es, p, e1, e2⟩⟩ := ownersOf_mem.1 hr
        · exact (sat.hb _ _ e1).2 r e2
        · exact (sat.hb _ _ e1).1
    obtain ⟨β', ϕ', b1, b2, b3, b5, b6, b7, b8⟩ := introVs_vw s.ret (s.res ps) rvs fr S.n S.A β ϕ hret hp' sat.hb hv
    simp only [callRd, hfresh, Bool.false_eq_true, if_false]
    exact ⟨_, β', ϕ', rfl, ⟨fun _ => packV_val b5, b3, b1, b2, packV_lt b6, packV_ok b7, b8, hfr⟩, hFr⟩
end
end Go.Proofs.YtkofjkjcbljkdaaGreatDoor
end

