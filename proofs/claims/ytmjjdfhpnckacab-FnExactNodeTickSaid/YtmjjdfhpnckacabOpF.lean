/-
  Builtins, conversions, and the making of structs and slices.
  Conditions: the table of types says what the program's says.
-/
import Derived.Test.YtmjjdfhpnckacabOpE
namespace Go.Proofs.Ytmjjdfhpnckacab
set_option linter.unusedVariables false
section
variable {P : Program} {E : Env} {N : Nat} {w0 : World} {X F : List Nat} {S : St} {β : Nat → GV} {ϕ : Nat → List Nat} {a : Act} {w w' : World} {o : Oper} {R : RR} {A : Hp} {B : Nat}

theorem s_assign {x : Operand} (hT : EnvTy P E) (ho : o.op = .assign x) (hR : opRes E S true o = some R) (sat : Sat N w0 X F S β ϕ a w) (hob : R.ob) : Snd P w0 X F S β ϕ o a w R := by
  unfold opRes at hR
  rw [ho] at hR
  simp only at hR
  split at hR
  · rename_i g' v hx
    generalize lvsOf E o.type = Ts at hR
    split at hR
    · cases hR
      obtain ⟨x1, x2⟩ := ev_sound hx sat
      replace x1 := x1 (hob rfl)
      obtain ⟨x3, x4⟩ := x2 (hob rfl)
      exact snd_pure sat trivial (by simp [execOp, ho, x3]) x1 x4
    · cases hR
      obtain ⟨_, q2, q3⟩ := hob
      obtain ⟨x1, x2⟩ := ev_sound hx sat
      replace x1 := x1 q2
      obtain ⟨x3, x4⟩ := x2 q2
      obtain ⟨β', ϕ', a1, a2, a3, a4, a5, a6, a7, a8, a9, a10⟩ := fixL_sound Ts v.cells S.n S.A β ϕ sat.hp sat.hb (lts_cells x1) (oks_cells x4)
      have hv : SV.val β' (v.ofCells (fixL S.n Ts v.cells).1) = SV.val β v ∧ SV.lt (fixL S.n Ts v.cells).2.2 (v.ofCells (fixL S.n Ts v.cells).1) ∧ SV.ok β' (v.ofCells (fixL S.n Ts v.cells).1) := by
        by_cases hA : ∃ ys, v = .agg ys
        · obtain ⟨ys, rfl⟩ := hA
          simp only [SV.cells] at a5 a6 a7 ⊢
          exact ⟨by simp only [SV.ofCells, SV.val, a5], a6, a7⟩
        · have hc : v.cells = [v] := by cases v <;> first | rfl | exact absurd ⟨_, rfl⟩ hA
          have ho2 : ∀ xs, v.ofCells xs = xs.headD .nilp := by intro xs; cases v <;> first | rfl | exact absurd ⟨_, rfl⟩ hA
          rw [hc] at a5 a6 a7 a9 ⊢
          obtain ⟨z, hz⟩ := List.length_eq_one_iff.1 a9
          rw [ho2, hz]
          rw [hz] at a5 a6 a7
          simp only [SV.vals, List.cons.injEq, and_true] at a5
          exact ⟨a5, a6.1, a7.1⟩
      refine ⟨trivial, _, w, β', ϕ', .inl ?_, ⟨fun _ => rfl, a3, a1, a2, hv.2.1, hv.2.2, a8, sat.fr⟩, fun h => by simp [stillP, convP, ho] at h, fun _ => Fr.refl _ _⟩
      rw [hv.1]
      simp [execOp, ho, x3]
  · cases hR

/-- A builtin that is no append. -/
theorem run_builtin {c : Call} {b : Builtin} {vs : List SV} {ob : Prop} (ho : o.op = .call c) (hc : c.callee = .builtin b) (hvs : evs S true c.args.toList = some (ob, vs)) (hob : ob) (sat : Sat N w0 X F S β ϕ a w) :
    ∃ consts, execOp a.eval o = builtin b c.argTypes o.type consts (SV.vals β vs).toArray := by
  obtain ⟨_, h2⟩ := evs_sound hvs sat
  obtain ⟨h3, _⟩ := h2 rfl hob
  refine ⟨c.args.map fun | .const _ => true | _ => false, ?_⟩
  have h4 : Array.map a.eval c.args = (SV.vals β vs).toArray := by
    rw [← h3]; apply Array.ext'; simp
  simp only [execOp, ho, resolve, hc, h4, pure_bind, invoke]
  rfl

theorem s_len {c : Call} {vs : List SV} {ob : Prop} (hT : EnvTy P E) (ho : o.op = .call c) (hc : c.callee = .builtin .len) (hvs : evs S true c.args.toList = some (ob, vs))
    (hR : builtinRes E S true .len c.argTypes.toList ob vs = some R) (sat : Sat N w0 X F S β ϕ a w) (hob : R.ob) : Snd P w0 X F S β ϕ o a w R := by
  obtain ⟨e1, e2⟩ := evs_sound hvs sat
  unfold builtinRes at hR
  split at hR
  · rename_i t ts l hb hts
    split at hR
    · rename_i ti hti
      cases hR
      obtain ⟨q1, q2⟩ := hob rfl
      obtain ⟨consts, hr⟩ := run_builtin ho hc hvs q1 sat
      have hd := (hT _ _ hti).und
      rw [q2] at hd
      have hok := (e2 rfl q1).2.1
      have h0 : c.argTypes[0]? = some t := by rw [← Array.getElem?_toList, hts]; rfl
      refine snd_pure sat hok ?_ trivial (inR_len hok)
      rw [hr]
      have hsz : (ByteArray.mk l.toArray).size = l.length := by simp [ByteArray.size]
      simp [builtin, Builtin.len_, h0, SV.vals, SV.val, underlying, hd, goInt, hsz]
    · cases hR
  · rename_i t ts h hb hts
    split at hR
    · cases hR
    · rename_i ow T es p ti hnc hl hti
      have hnc : ∀ k, ow ≠ .cs k := fun k e => hnc k (by rw [e])
      cases hR
      obtain ⟨q1, q2⟩ := hob rfl
      obtain ⟨consts, hr⟩ := run_builtin ho hc hvs q1 sat
      have hd := (hT _ _ hti).und
      rw [q2] at hd
      have h0 : c.argTypes[0]? = some t := by rw [← Array.getElem?_toList, hts]; rfl
      obtain ⟨hle, cp, ad, hv, _⟩ := lv_len (hl_lv sat hl hnc)
      refine snd_pure sat hle ?_ trivial (inR_len hle)
      rw [hr]
      simp [builtin, Builtin.len_, h0, SV.vals, SV.val, underlying, hd, goInt, hv]
    · cases hR
  all_goals first | (exfalso; rename_i hb; simp at hb; done) | (exfalso; rename_i hb _; simp at hb; done) | (exfalso; rename_i hb _ _; simp at hb; done) | (exfalso; rename_i hb _ _ _; simp at hb; done) | cases hR

theorem s_minmax {c : Call} {b : Builtin} {vs : List SV} {ob : Prop} (hb : b = .min ∨ b = .max) (ho : o.op = .call c) (hc : c.callee = .builtin b) (hvs : evs S true c.args.toList = some (ob, vs))
    (hR : builtinRes E S true b c.argTypes.toList ob vs = some R) (sat : Sat N w0 X F S β ϕ a w) (hob : R.ob) : Snd P w0 X F S β ϕ o a w R := by
  obtain ⟨e1, e2⟩ := evs_sound hvs sat
  have key : ∃ k x k' y, vs = [.int k x, .int k' y] ∧ ((b = .min ∧ R = ⟨True, imp true (ob ∧ k' = k), .int k (if y < x then y else x), S.A, S.n⟩) ∨ (b = .max ∧ R = ⟨True, imp true (ob ∧ k' = k), .int k (if y > x then y else x), S.A, S.n⟩)) := by
    rcases hb with rfl | rfl
    · unfold builtinRes at hR
      split at hR
      case h_5 => cases hR; exact ⟨_, _, _, _, rfl, .inl ⟨rfl, rfl⟩⟩
      all_goals first | (exfalso; rename_i hb; simp at hb; done) | (exfalso; rename_i hb _; simp at hb; done) | (exfalso; rename_i hb _ _; simp at hb; done) | (exfalso; rename_i hb _ _ _; simp at hb; done) | cases hR
    · unfold builtinRes at hR
      split at hR
      case h_6 => cases hR; exact ⟨_, _, _, _, rfl, .inr ⟨rfl, rfl⟩⟩
      all_goals first | (exfalso; rename_i hb; simp at hb; done) | (exfalso; rename_i hb _; simp at hb; done) | (exfalso; rename_i hb _ _; simp at hb; done) | (exfalso; rename_i hb _ _ _; simp at hb; done) | cases hR
  obtain ⟨k, x, k', y, rfl, ⟨rfl, rfl⟩ | ⟨rfl, rfl⟩⟩ := key
  · obtain ⟨q1, q2⟩ := hob rfl
    subst q2
    obtain ⟨consts, hr⟩ := run_builtin ho hc hvs q1 sat
    have h3 := (e2 rfl q1).2
    refine snd_pure sat trivial ?_ trivial ?_
    · rw [hr]; simp [builtin, Builtin.min_, Builtin.min2, SV.vals, SV.val]
    · show inR _ _
      split
      · exact h3.2.1
      · exact h3.1
  · obtain ⟨q1, q2⟩ := hob rfl
    subst q2
    obtain ⟨consts, hr⟩ := run_builtin ho hc hvs q1 sat
    have h3 := (e2 rfl q1).2
    refine snd_pure sat trivial ?_ trivial ?_
    · rw [hr]; simp [builtin, Builtin.max_, Builtin.max2, SV.vals, SV.val]
    · show inR _ _
      split
      · exact h3.2.1
      · exact h3.1

theorem lv_bytes (w : World) : ∀ (l : List UInt8), Lv w (flatT (.int .u8) l.length) (flatP (bytesPV l)) (l.map fun b => Value.int .u8 b.toNat) []
  | [] => .nil
  | b :: l => by
    have h1 := lv_bytes w l
    have h2 : inR .u8 (b.toNat : Int) := by
      have := b.toNat_lt
      have h1 : IntKind.u8.min = 0 := rfl
      have h2 : IntKind.u8.max = 255 := rfl
      simp only [inR, h1, h2]; omega
    have h3 : flatT (.int .u8) (b :: l).length = .int .u8 :: flatT (.int .u8) l.length := by
      simp [flatT, List.replicate_succ, PTy.leaves]
    have h4 : flatP (bytesPV (b :: l)) = .int .u8 b.toNat :: flatP (bytesPV l) := by simp [flatP, bytesPV, PV.leaves]
    rw [h3, h4]
    exact .int h2 h1

theorem lv_ints {k : IntKind} : ∀ {n : Nat} {es : List PV} {cs : List Value} {f : List Nat}, Lv w (flatT (.int k) n) es cs f → cs = es.map fun p => Value.int k p.I
  | 0, es, cs, f, h => by
    have : flatT (.int k) 0 = [] := rfl
    rw [this] at h
    cases h; rfl
  | n + 1, es, cs, f, h => by
    have h3 : flatT (.int k) (n + 1) = .int k :: flatT (.int k) n := by
      simp [flatT, List.replicate_succ, PTy.leaves]
    rw [h3] at h
    cases h with
    | int h1 h2 => rw [lv_ints h2]; rfl

theorem flatP_leaf {T : PTy} {es : List PV} (hS : ∀ e ∈ es, Shp T e) (hT : ∀ ts, T ≠ .agg ts) : flatP es = es := by
  induction es with
  | nil => rfl
  | cons e es ih =>
    have h1 : ∀ qs, e ≠ .agg qs := by
      have := hS e (by simp)
      unfold Shp at this
      split at this
      · exact absurd rfl (hT _)
      · exact this
    have := ih fun x hx => hS x (by simp [hx])
    simp only [flatP, List.flatMap_cons] at this ⊢
    rw [this, leaf_leaves h1]; rfl

theorem foldl_push : ∀ (ns : List Int) (r : ByteArray), ns.foldl (fun r n => r.push (UInt8.ofNat n.toNat)) r = ⟨r.data ++ (ns.map fun n => UInt8.ofNat n.toNat).toArray⟩
  | [], r => by simp
  | n :: ns, r => by
    simp only [List.foldl_cons]
    rw [foldl_push ns]
    simp [ByteArray.push]

theorem run_bytesBack {src dst e : TypeId} {v : Value} {es : List PV} {f : List Nat} (hs : P.underlying src = some (.slice e)) (he : P.underlying e = some (.int .u8)) (hd : P.underlying dst = some .string)
    (hL : Lv w [.list (.int .u8)] [.list es] [v] f) : (convert src dst v).run P w = .ok (.string ⟨(pvBytes es).toArray⟩) w := by
  cases hL with
  | @empty T ad c Ts ps vs fp h =>
    rw [run_convert_bytes_string w src dst e ad 0 c hs he hd]
    cases ad with
    | none => simp [Conv.bytesToString, pvBytes]; rfl
    | some ad =>
      have := run_bytesToString (P := P) w ad 0 c [] (by simp [loadCells, loadCellsFrom])
      rw [this]; rfl
  | @list T es b off cap c t fr cs f1 Ts ps vs fp hb hS hl hv hc ht =>
    rw [run_convert_bytes_string w src dst e _ _ _ hs he hd]
    have hfl := flatP_leaf hS (by simp)
    rw [hfl] at hv
    have hcs := lv_ints hv
    have hlen : cs.length = es.length := by rw [hcs]; simp
    have hbnd : off + es.length ≤ c.size ∨ es.length = 0 := by
      have := congrArg List.length hc
      rw [List.length_take, List.length_drop] at this
      simp only [Array.length_toList] at this
      omega
    have hload : (loadCells ⟨b, off, none⟩ es.length).run P w = .ok ((es.map PV.I).map (Value.int .u8)).toArray w := by
      rcases hbnd with hbnd | hbnd
      · rw [run_loadCells_row (P := P) b off es.length c t fr hb hbnd]
        rw [hlen] at hc
        rw [hc, hcs]; simp [Function.comp_def]
      · have : es = [] := List.eq_nil_of_length_eq_zero hbnd
        subst this
        simp [loadCells, loadCellsFrom]
    rw [run_bytesToString (P := P) w _ _ _ _ hload, foldl_push]
    simp [pvBytes, Function.comp_def]

theorem own_flat {b cap : Nat} {T : PTy} {es : List PV} {c : Array Value} {t : TypeId} {fr : Nat × Nat} {cs : List Value} (hT : flatB T = true) (hblk : w.heap[b]? = some (.cells c t fr)) (hcap : cap * T.wd ≤ c.size) (hle : es.length ≤ cap) (hmx : cap ≤ maxLen) (hlim : es.length ≤ LIM)
    (hfz : ∀ i, i < c.size → ¬ (fr.1 ≤ i ∧ i < fr.2)) (hS : ∀ e ∈ es, Shp T e) (hL : Lv w (flatT T es.length) (flatP es) cs []) (hc : c.toList.take cs.length = cs) : OwnD w (.slice (some ⟨b, 0, none⟩) es.length cap) T es [b] := by
  refine ownS_D hT (.inr ⟨b, [], cs, rfl, ⟨⟨0, cap, c, t, fr, rfl, hblk, by omega, hle, hmx, hfz, by simpa using hc⟩, ?_, hlim⟩, hS, hL⟩)
  rw [hL.lens.2, flatP_len hS]

theorem add_fresh {n : Nat} {T : PTy} {es : List PV} {v : Value} {f : List Nat} (hp : Holds w0.heap.size X F A β ϕ w) (hb : Bd n β A) (hw : Fr w0 X w) (hf : ∀ b, b < w.heap.size → w'.heap[b]? = w.heap[b]?) (ho : OwnD w' v T es f) (hn : f.Nodup) (hnew : ∀ b ∈ f, w.heap.size ≤ b) :
    Holds w0.heap.size X F ((n, .arr .dp T es .no) :: A) (upd β n (gv v)) (upd ϕ n f) w' ∧ Bd (n + 1) (upd β n (gv v)) ((n, .arr .dp T es .no) :: A) :=
  ⟨hp.addNew hb hw hf (lv_one1 ho.lv) ho hnew hn rfl trivial, hb_add hb trivial⟩

theorem drew_alloc_old (w : World) (o : Obj) {b : Nat} (h : b < w.heap.size) : (w.drew.alloc o).heap[b]? = w.heap[b]? := heap_alloc_old w.drew o b h

theorem Fr.drewAlloc (h : Fr w0 X w) (o : Obj) : Fr w0 X (w.drew.alloc o) := 
  ⟨h.os, h.tape, h.output, by have := h.size; show _ ≤ (w.heap.push o).size; simp; omega, fun b hb hn => (drew_alloc_old w o (Nat.lt_of_lt_of_le hb h.size)).trans (h.block b hb hn)⟩

theorem s_convert {src dst : TypeId} {x : Operand} (hT : EnvTy P E) (ho : o.op = .convert src dst x) (hR : opRes E S true o = some R) (sat : Sat N w0 X F S β ϕ a w) (hob : R.ob) : Snd P w0 X F S β ϕ o a w R := by
  unfold opRes at hR
  rw [ho] at hR
  simp only at hR
  split at hR
  · rename_i g' v ti td hx hti htd
    obtain ⟨x1, x2⟩ := ev_sound hx sat
    have hs := (hT _ _ hti).und
    have hd := (hT _ _ htd).und
    have us := run_underlying (w := w) hs
    have ud := run_underlying (w := w) hd
    unfold convRes at hR
    split at hR
    · rename_i k _ k' n hdk
      cases hR
      replace x1 := x1 (hob rfl)
      obtain ⟨x3, x4⟩ := x2 (hob rfl)
      rw [hdk] at ud
      refine snd_pure sat trivial ?_ trivial (inR_wrap _ _)
      simp [execOp, ho, x3, convert, us, ud, SV.val, Conv.intToInt]
    · rename_i l hdk hsk
      cases hR
      obtain ⟨x3, x4⟩ := x2 (hob rfl)
      rw [hdk] at ud; rw [hsk] at us
      refine snd_pure sat trivial ?_ trivial x4
      simp [execOp, ho, x3, convert, us, ud, SV.val]
    · rename_i e h hdk hsk
      split at hR
      · cases hR
      · rename_i ow T es p te hnc hl hte
        have hnc : ∀ k, ow ≠ .cs k := fun k e => hnc k (by rw [e])
        split at hR
        · rename_i htk
          cases hR
          obtain ⟨q1, q2⟩ := hob rfl
          subst q2
          obtain ⟨x3, x4⟩ := x2 q1
          rw [hdk] at hd; rw [hsk] at hs
          have he := (hT _ _ hte).und
          rw [htk] at he
          refine snd_pure sat trivial ?_ trivial ?_
          · have := run_bytesBack (dst := dst) hs he hd (hl_lv sat hl hnc)
            simp only [execOp, ho, x3, SV.val, Sem.run_bind, this, Result.andThen_ok, Sem.run_pure]
          · have := (lv_len (hl_lv sat hl hnc)).1
            show (pvBytes es).length ≤ LIM
            simpa [pvBytes] using this
        · cases hR
      · cases hR
    · rename_i e l hdk hsk
      split at hR
      · rename_i te hte
        split at hR
        · rename_i htk
          cases hR
          obtain ⟨_, q1⟩ := hob
          obtain ⟨x3, x4⟩ := x2 q1
          rw [hdk] at hd; rw [hsk] at hs
          have he := (hT _ _ hte).und
          rw [htk] at he
          have hrun := run_bytes_of_string (P := P) w src dst e ⟨l.toArray⟩ hs hd he
          have hsz : (ByteArray.mk l.toArray).size = l.length := by simp [ByteArray.size]
          rw [hsz] at hrun
          have hl : l.length ≤ LIM := x4
          have hge := grownCap_ge w l.length 0 e
          have hcm := grownCap_le_maxLen w l.length 0 e (by unfold maxLen; unfold LIM at hl; omega)
          generalize grownCap w l.length 0 e = cap at *
          have hbs : (bytesRow ⟨l.toArray⟩ cap).size = cap := by simp [bytesRow, hsz]; omega
          have hbl : (bytesRow ⟨l.toArray⟩ cap).toList.take l.length = l.map fun b => Value.int .u8 b.toNat := by
            simp [bytesRow]
          have hbl2 : (bytesPV l).length = l.length := by simp [bytesPV]
          have hown : OwnD (w.drew.alloc (.cells (bytesRow ⟨l.toArray⟩ cap) e ((bytesRow ⟨l.toArray⟩ cap).size, (bytesRow ⟨l.toArray⟩ cap).size + 1))) (.slice (some ⟨w.heap.size, 0, none⟩) (bytesPV l).length cap) (.int .u8) (bytesPV l) [w.heap.size] := by
            refine own_flat rfl (heap_alloc_new w.drew _) (by rw [hbs]; simp [PTy.wd, PTy.leaves]) (by rw [hbl2]; exact hge) hcm (by rw [hbl2]; exact hl) ?_ ?_ (cs := l.map fun b => Value.int .u8 b.toNat) ?_ ?_
            · intro i hi; omega
            · intro e' he' qs; simp only [bytesPV, List.mem_map] at he'; obtain ⟨b, _, rfl⟩ := he'; simp
            · rw [hbl2]; exact lv_bytes _ l
            · simpa using hbl
          rw [hbl2] at hown
          obtain ⟨c1, c2⟩ := add_fresh sat.hp sat.hb sat.fr (fun b hb => drew_alloc_old w _ hb) hown (by simp) (by simp)
          refine ⟨trivial, _, _, _, _, .inl ?_, ⟨fun _ => rfl, fun h hh => upd_lt _ _ _ hh, c1, c2, ?_, trivial, Nat.le_succ _, sat.fr.drewAlloc _⟩, fun h => by simp [stillP, convP, ho] at h, fun _ => (Fr.refl _ _).drewAlloc _⟩
          · simp only [execOp, ho, x3, SV.val, Sem.run_bind, hrun, Result.andThen_ok, Sem.run_pure, upd_eq, gv]
          · exact Nat.lt_succ_self _
        · cases hR
      · cases hR
    · cases hR
  · cases hR

end
end Go.Proofs.Ytmjjdfhpnckacab
