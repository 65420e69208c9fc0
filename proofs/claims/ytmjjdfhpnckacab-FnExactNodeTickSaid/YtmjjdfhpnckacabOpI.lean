/-
  make; slices of slices and strings.
  Conditions: the table of types says what the program's says.
-/
import Derived.Test.YtmjjdfhpnckacabOpH
namespace Go.Proofs.Ytmjjdfhpnckacab
set_option linter.unusedVariables false
section
variable {P : Program} {E : Env} {N : Nat} {w0 : World} {X F : List Nat} {S : St} {β : Nat → GV} {ϕ : Nat → List Nat} {a : Act} {w w' : World} {o : Oper} {R : RR} {A : Hp} {B : Nat}

theorem wrap_in {k : IntKind} {n : Int} (h : inR k n) : k.wrap n = n := by
  unfold inR IntKind.min IntKind.max at h
  unfold IntKind.wrap
  cases k <;> simp [IntKind.signed, IntKind.bits] at h ⊢ <;> (try split) <;> omega

theorem zero_lv (w : World) : ∀ {ts : List PTy}, (∀ t ∈ ts, leafD t = true) → Lv w ts (ts.map zeroLf) (ts.map zeroV) []
  | [], _ => .nil
  | t :: ts, h => by
    have ih := zero_lv w (ts := ts) fun x hx => h x (by simp [hx])
    have h1 := h t (by simp)
    cases t with
    | int k => exact .int (by cases k <;> decide) ih
    | bool => exact .bool ih
    | str => exact .str (Nat.zero_le _) ih
    | list T => exact .empty ih
    | _ => simp [leafD] at h1

theorem zero_lo (w : World) : ∀ {ts : List PTy}, (∀ t ∈ ts, leafD t = true) → ∃ fs, fs.flatten = [] ∧ LoP (OwnF w) ts (ts.map zeroLf) (ts.map zeroV) fs
  | [], _ => ⟨[], rfl, .nil⟩
  | t :: ts, h => by
    obtain ⟨fs, h2, h3⟩ := zero_lo w (ts := ts) fun x hx => h x (by simp [hx])
    have h1 := h t (by simp)
    refine ⟨[] :: fs, by simpa using h2, ?_⟩
    cases t with
    | int k => exact .int (by cases k <;> decide) h3
    | bool => exact .bool h3
    | str => exact .str (Nat.zero_le _) h3
    | list T => exact .list ⟨h1, .inl ⟨rfl, rfl, none, rfl⟩⟩ h3
    | _ => simp [leafD] at h1

theorem zero_shp {T : PTy} (h : T.leaves = [T] ∨ ∃ ts, T = .agg ts) : Shp T (zeroPV T) ∧ (zeroPV T).leaves = T.leaves.map zeroLf := by
  cases T with
  | agg ts => exact ⟨⟨_, rfl, by simp [zeroLfs_map]⟩, by simp [zeroPV, PV.leaves, PTy.leaves, zeroLfs_map]⟩
  | _ => exact ⟨by simp [Shp, zeroPV, zeroLf, PV.d], rfl⟩

theorem zero_rep (w : World) {T : PTy} (h : dataB T = true) (hs : T.leaves = [T] ∨ ∃ ts, T = .agg ts) : ∀ n, Lv w (flatT T n) (flatP (List.replicate n (zeroPV T))) (List.replicate n (T.leaves.map zeroV)).flatten []
  | 0 => .nil
  | n + 1 => by
    have ih := zero_rep w h hs n
    have h1 := zero_lv w (ts := T.leaves) (leafDs_iff.1 h)
    have e1 : flatT T (n + 1) = T.leaves ++ flatT T n := by simp [flatT, List.replicate_succ]
    have e2 : flatP (List.replicate (n + 1) (zeroPV T)) = T.leaves.map zeroLf ++ flatP (List.replicate n (zeroPV T)) := by
      simp [flatP, List.replicate_succ, (zero_shp hs).2]
    rw [e1, e2, List.replicate_succ, List.flatten_cons]
    exact h1.append ih

theorem zero_rep_lo (w : World) {T : PTy} (h : dataB T = true) (hs : T.leaves = [T] ∨ ∃ ts, T = .agg ts) : ∀ n, ∃ fs, fs.flatten = [] ∧ LoP (OwnF w) (flatT T n) (flatP (List.replicate n (zeroPV T))) (List.replicate n (T.leaves.map zeroV)).flatten fs
  | 0 => ⟨[], rfl, .nil⟩
  | n + 1 => by
    obtain ⟨fs, h2, h3⟩ := zero_rep_lo w h hs n
    obtain ⟨fs1, h4, h5⟩ := zero_lo w (ts := T.leaves) (leafDs_iff.1 h)
    have e1 : flatT T (n + 1) = T.leaves ++ flatT T n := by simp [flatT, List.replicate_succ]
    have e2 : flatP (List.replicate (n + 1) (zeroPV T)) = T.leaves.map zeroLf ++ flatP (List.replicate n (zeroPV T)) := by
      simp [flatP, List.replicate_succ, (zero_shp hs).2]
    rw [e1, e2, List.replicate_succ, List.flatten_cons]
    exact ⟨fs1 ++ fs, by simp [h2, h4], h5.append h3⟩

theorem range_rep (zl : List Value) (f : Nat → Value) (hz : 0 < zl.length) (hf : ∀ i, f i = zl[i % zl.length]'(Nat.mod_lt _ hz)) : ∀ n, (List.range (n * zl.length)).map f = (List.replicate n zl).flatten
  | 0 => by simp
  | n + 1 => by
    have ih := range_rep zl f hz hf n
    have e : (n + 1) * zl.length = n * zl.length + zl.length := by simp [Nat.add_mul]
    rw [e, List.range_add, List.map_append, ih, List.map_map]
    have h2 : (List.range zl.length).map (f ∘ (n * zl.length + ·)) = zl := by
      apply List.ext_getElem
      · simp
      · intro i h1 h2
        simp only [List.getElem_map, List.getElem_range, Function.comp_apply, hf]
        congr 1
        rw [Nat.mul_comm, Nat.mul_add_mod, Nat.mod_eq_of_lt h2]
    rw [h2, List.replicate_succ', List.flatten_append]
    simp

theorem s_makeSlice {t : TypeId} {l c : Operand} (hT : EnvTy P E) (ho : o.op = .makeSlice t l c) (hR : opRes E S true o = some R) (sat : Sat N w0 X F S β ϕ a w) (hob : R.ob) : Snd P w0 X F S β ϕ o a w R := by
  unfold opRes at hR
  rw [ho] at hR
  simp only at hR
  split at hR
  · rename_i g' n g'' m ti hl hc hti
    split at hR
    · rename_i te hte
      cases hR
      obtain ⟨_, q1, q2, q3, q4, q5, q6, q7, q8⟩ := hob
      obtain ⟨_, l2⟩ := ev_sound hl sat
      obtain ⟨_, c2⟩ := ev_sound hc sat
      obtain ⟨l3, l4⟩ := l2 q1
      obtain ⟨c3, c4⟩ := c2 q2
      have hTk := hT _ _ hti
      have hTe := hT _ _ hte
      have hu := run_und hTk w
      rw [q7] at hu
      obtain ⟨i, hi, his, hib, z, hz, hzc⟩ := hTe.info
      have hlim : (LIM : Int) = 140737488355328 := rfl
      obtain ⟨N', rfl⟩ := Int.eq_ofNat_of_zero_le q3
      obtain ⟨M, rfl⟩ := Int.eq_ofNat_of_zero_le (show 0 ≤ m by omega)
      have hwn : IntKind.i64.wrap (N' : Int) = N' := wrap_in l4
      have hwm : IntKind.i64.wrap (M : Int) = M := wrap_in c4
      have hpos := hTe.pos
      have hzsz : z.cells.size = te.sz := by rw [hzc]; simp [TI.sz]
      obtain ⟨hwd, hlv⟩ := pty_wd hTe
      have hs : te.pty.leaves = [te.pty] ∨ ∃ ts, te.pty = .agg ts := by
        cases hA : te.agg with
        | true => exact .inr ⟨te.leaves, by simp [TI.pty, hA]⟩
        | false =>
          obtain ⟨y, hy⟩ := List.length_eq_one_iff.1 (show te.leaves.length = 1 from hTe.one hA)
          left; rw [hlv, hy]; simp [TI.pty, hA, hy]
      -- the cells
      have hcells : ∀ K, ((Array.range (K * te.sz)).map (fun x => z.cells[x % z.cells.size]!)).toList = (List.replicate K (te.pty.leaves.map zeroV)).flatten := by
        intro K
        have hzl : (te.leaves.map zeroV).length = te.sz := by simp [TI.sz]
        have := range_rep (te.leaves.map zeroV) (fun x => z.cells[x % z.cells.size]!) (by rw [hzl]; exact hpos) (by
          intro i
          rw [hzc]
          have hlt : i % (te.leaves.map zeroV).toArray.size < (te.leaves.map zeroV).toArray.size := Nat.mod_lt _ (by simp; rw [← hzl] at hpos; simpa using hpos)
          rw [getElem!_pos (te.leaves.map zeroV).toArray _ hlt]
          simp) K
        rw [hzl] at this
        rw [Array.toList_map, Array.toList_range, this, hlv]
      have hrlen : ∀ K, ((List.replicate K (te.pty.leaves.map zeroV)).flatten).length = K * te.sz := by
        intro K
        have := congrArg List.length (hcells K)
        simpa using this.symm
      have hMN : N' ≤ M := by omega
      have hM : M ≤ LIM := by omega
      have hown : OwnD (w.alloc (.cells ((Array.range (M * te.sz)).map (fun x => z.cells[x % z.cells.size]!)) ti.el)) (.slice (some ⟨w.heap.size, 0, none⟩) N' M) te.pty (List.replicate N' (zeroPV te.pty)) [w.heap.size] := by
        have hcl : (List.replicate N' (te.pty.leaves.map zeroV)).flatten.length = N' * te.sz := hrlen N'
        refine .inr ⟨w.heap.size, [], (List.replicate N' (te.pty.leaves.map zeroV)).flatten, rfl, ⟨⟨0, M, _, ti.el, (0, 0), by simp, heap_alloc_new w _, by simp [hwd], by simpa using hMN, by unfold maxLen; unfold LIM at hM; omega, by simp, ?_⟩, by rw [hcl, hwd]; simp, by simp; omega⟩, ?_, ?_⟩
        · rw [List.drop_zero, hcells M]
          have : M = N' + (M - N') := by omega
          rw [this, ← List.replicate_append_replicate, List.flatten_append, List.take_left]
        · intro e he
          rw [List.eq_of_mem_replicate he]
          exact (zero_shp hs).1
        · obtain ⟨fs, h2, h3⟩ := zero_rep_lo (w.alloc (.cells ((Array.range (M * te.sz)).map (fun x => z.cells[x % z.cells.size]!)) ti.el)) q8 hs N'
          exact ⟨fs, h2.symm, by simpa using h3⟩
      obtain ⟨d1, d2⟩ := add_fresh sat.hp sat.hb sat.fr (fun b hb => alloc_old w _ hb) hown (by simp) (by simp)
      refine ⟨trivial, _, _, _, _, .inl ?_, ⟨fun _ => rfl, fun h hh => upd_lt _ _ _ hh, d1, d2, Nat.lt_succ_self _, trivial, Nat.le_succ _, sat.fr.alloc _⟩, fun h => by simp [stillP, convP, ho] at h, fun _ => (Fr.refl _ _).alloc _⟩
      have hb : (te.bytes : Int) * M ≤ 140737488355328 := by rw [← hlim]; exact q5
      have ht1 : (decide ((M : Int) < 0) || decide ((te.bytes : Int) * M > 2 ^ 48)) = false := by simp; omega
      have ht2 : ((decide ((M : Int) < 0) || decide ((te.bytes : Int) * (M : Int) > 2 ^ 48)) || decide ((N' : Int) < 0) || decide ((N' : Int) > (M : Int))) = false := by
        rw [ht1]; simp; omega
      simp only [execOp, ho, Instr.makeSlice, Sem.run_bind, hu, Result.andThen_ok, l3, c3, SV.val, asInt, asIntOf, Sem.run_pure, hwn, hwm, typeInfo, run_program, hi, hib, upd_eq, gv]
      rw [if_neg (by rw [Bool.not_eq_true]; exact ht2)]
      simp only [Sem.run_bind, run_askRoom, Result.andThen_ok, sizeOf, typeInfo, run_program, hi, his, Sem.run_pure, Int.toNat_natCast]
      by_cases h0 : M * te.sz = 0
      · rw [if_pos h0]
        simp only [Sem.run_bind, Sem.run_pure, Result.andThen_ok, newRow, run_newObj]
        have e : ∀ f : Nat → Value, Array.map f (Array.range 0) = #[] := fun f => by simp
        simp only [h0, e]
        rfl
      · simp only [if_neg h0, Sem.run_bind, Sem.run_pure, Result.andThen_ok, zeroValue, typeInfo, run_program, hi, hz, newRow, run_newObj]
        rfl
    · cases hR
  · cases hR

theorem evO_sound {x : Option Operand} {ob : Prop} {n : Option Int} (h : evO S true x = some (ob, n)) (hob : ob) (sat : Sat N w0 X F S β ϕ a w) :
    (x = none ∧ n = none) ∨ ∃ y k m, x = some y ∧ n = some m ∧ a.eval y = .int k m := by
  cases x with
  | none => simp [evO] at h; exact .inl ⟨rfl, h.2.symm⟩
  | some y =>
    simp only [evO] at h
    split at h
    · rename_i g' k m hy
      simp only [Option.some.injEq, Prod.mk.injEq] at h
      obtain ⟨rfl, rfl⟩ := h
      obtain ⟨_, h2⟩ := ev_sound hy sat
      exact .inr ⟨y, k, m, rfl, rfl, (h2 (hob rfl)).1⟩
    · cases h

theorem run_sliceBound {y : Nat} {code : BoundsCode} {k : IntKind} {n : Int} (h0 : 0 ≤ n) (h1 : n ≤ y) : (Instr.sliceBound (.int k n) y code).run P w = .ok n.toNat w := by
  simp [Instr.sliceBound, asIntOf, h0, h1]

theorem run_sliceBounds {b : Bool} {len cap : Nat} {lo hi : Option Operand} {ln hn : Option Int} {f : Operand → Value} (hl : (lo = none ∧ ln = none) ∨ ∃ y k m, lo = some y ∧ ln = some m ∧ f y = .int k m)
    (hh : (hi = none ∧ hn = none) ∨ ∃ y k m, hi = some y ∧ hn = some m ∧ f y = .int k m) (hc : len ≤ cap) (h0 : 0 ≤ ln.getD 0) (h1 : ln.getD 0 ≤ hn.getD len) (h2 : hn.getD len ≤ len) :
    (Instr.sliceBounds b len cap (lo.map f) (hi.map f) none).run P w = .ok ((ln.getD 0).toNat, (hn.getD len).toNat, cap) w := by
  have hhi : (hn.getD (len : Int)).toNat ≤ len := by omega
  rcases hl with ⟨rfl, rfl⟩ | ⟨y, k, m, rfl, rfl, hy⟩ <;> rcases hh with ⟨rfl, rfl⟩ | ⟨y', k', m', rfl, rfl, hy'⟩ <;> simp only [Option.getD_none, Option.getD_some] at *
  · simp [Instr.sliceBounds]
  · have := run_sliceBound (P := P) (w := w) (code := if b then .sliceAcap else .sliceAlen) (k := k') (y := cap) (n := m') (by omega) (by omega)
    simp only [Instr.sliceBounds, Option.map_none, Option.map_some, hy', Sem.run_bind, Sem.run_pure, Result.andThen_ok, this]
    rfl
  · have := run_sliceBound (P := P) (w := w) (code := .sliceB) (k := k) (y := len) (n := m) (by omega) (by omega)
    simp only [Instr.sliceBounds, Option.map_none, Option.map_some, hy, Sem.run_bind, Sem.run_pure, Result.andThen_ok, Option.isSome_none, Bool.false_eq_true, if_false, this]
    simp
  · have t1 := run_sliceBound (P := P) (w := w) (code := if b then .sliceAcap else .sliceAlen) (k := k') (y := cap) (n := m') (by omega) (by omega)
    have t2 := run_sliceBound (P := P) (w := w) (code := .sliceB) (k := k) (y := m'.toNat) (n := m) (by omega) (by omega)
    simp only [Instr.sliceBounds, Option.map_some, hy, hy', Sem.run_bind, Sem.run_pure, Result.andThen_ok, Option.isSome_none, Bool.false_eq_true, if_false, t1, t2]

/-- A slice of a slice reads as that part of its contents. -/
theorem sub_lv {v : Value} {T : PTy} {es : List PV} {f : List Nat} {l h cap : Nat} {ad : Option Addr} (hL : Lv w [.list T] [.list es] [v] f) (hv : v = .slice ad es.length cap) (hlh : l ≤ h) (hh : h ≤ es.length) :
    ∃ f', Lv w [.list T] [.list ((es.drop l).take (h - l))] [.slice (if cap = l then ad else ad.map fun x => x.add (l * T.wd)) (h - l) (cap - l)] f' ∧ ∀ b ∈ f', b ∈ f := by
  by_cases h0 : h = l
  · subst h0
    simp only [Nat.sub_self, List.take_zero]
    exact ⟨[], .empty .nil, by simp⟩
  · cases hL with
    | empty hn => simp at hh; omega
    | @list T es b o cap' c t fr cs f1 Ts ps vs fp hb hs hl hc hd hn =>
      obtain ⟨_, rfl⟩ := hn.nil_inv
      simp only [Value.slice.injEq, true_and] at hv
      obtain ⟨rfl, rfl⟩ := hv
      have hcl : cap' ≠ l := by omega
      have hsub : ((es.drop l).take (h - l)).length = h - l := by simp; omega
      -- part the leaves
      have e1 : es = es.take l ++ ((es.drop l).take (h - l) ++ es.drop h) := by
        have : es.drop h = (es.drop l).drop (h - l) := by rw [List.drop_drop]; congr 1; omega
        rw [this, List.take_append_drop, List.take_append_drop]
      have e2 : flatT T es.length = flatT T l ++ (flatT T (h - l) ++ flatT T (es.length - h)) := by
        rw [← flatT_add, ← flatT_add]; congr 1; omega
      have hP : flatP es = flatP (es.take l) ++ (flatP ((es.drop l).take (h - l)) ++ flatP (es.drop h)) := by
        conv => lhs; rw [e1]
        rw [flatP_append, flatP_append]
      have l1 : (flatP (es.take l)).length = l * T.wd := by
        rw [flatP_len fun x hx => hs x (List.mem_of_mem_take hx)]; simp; rw [Nat.min_eq_left (by omega)]
      have l2 : (flatP ((es.drop l).take (h - l))).length = (h - l) * T.wd := by
        rw [flatP_len fun x hx => hs x (List.mem_of_mem_drop (List.mem_of_mem_take hx)), hsub]
      obtain ⟨v1, v23, g1, g23, rfl, rfl, q1, q23⟩ := hc.split e2 hP (by rw [flatT_len, l1])
      obtain ⟨v2, v3, g2, g3, rfl, rfl, q2, q3⟩ := q23.split rfl rfl (by rw [flatT_len, l2])
      have k1 : v1.length = l * T.wd := by rw [q1.lens.2, l1]
      refine ⟨b :: g2, ?_, by intro x hx; simp at hx ⊢; rcases hx with rfl | hx; exact .inl rfl; exact .inr (.inr (.inl hx))⟩
      rw [if_neg hcl]
      simp only [Option.map_some, addr_add]
      have hcells : (c.toList.drop (o + l * T.wd)).take v2.length = v2 := by
        have h3 : ((c.toList.drop o).take (v1 ++ (v2 ++ v3)).length).drop (l * T.wd) = v2 ++ v3 := by
          rw [hd, ← k1]; simp
        rw [List.drop_take, List.drop_drop] at h3
        have h4 := congrArg (List.take v2.length) h3
        rw [List.take_take] at h4
        have h5 : min v2.length ((v1 ++ (v2 ++ v3)).length - l * T.wd) = v2.length := by
          simp only [List.length_append]; omega
        rw [h5] at h4
        simpa using h4
      have := Lv.list (w := w) (T := T) (es := (es.drop l).take (h - l)) (cap := cap' - l) hb (fun e he => hs e (List.mem_of_mem_drop (List.mem_of_mem_take he))) ⟨by rw [hsub]; have := hl.1; omega, by rw [hsub]; have := hl.2; omega⟩ (by rw [hsub]; exact q2) hcells .nil
      rw [hsub] at this
      simpa using this

theorem s_slice {t : TypeId} {x : Operand} {lo hi mx : Option Operand} (hT : EnvTy P E) (ho : o.op = .slice t x lo hi mx) (hR : opRes E S true o = some R) (sat : Sat N w0 X F S β ϕ a w) (hob : R.ob) : Snd P w0 X F S β ϕ o a w R := by
  unfold opRes at hR
  rw [ho] at hR
  simp only at hR
  split at hR
  · rename_i g' v o1 ln o2 hn hx hlo hhi
    obtain ⟨x1, x2⟩ := ev_sound hx sat
    unfold sliceRes at hR
    split at hR
    · rename_i l ti hti
      cases hR
      obtain ⟨⟨q1, q2, q3⟩, q4, q5, q6, q7⟩ := hob rfl
      replace x1 := x1 (q1 rfl)
      obtain ⟨x3, x4⟩ := x2 (q1 rfl)
      have hl := evO_sound hlo q2 sat
      have hh := evO_sound hhi q3 sat
      have hu := run_und (hT _ _ hti) w
      rw [q7] at hu
      have hsz : (ByteArray.mk l.toArray).size = l.length := by simp [ByteArray.size]
      have hb := run_sliceBounds (P := P) (w := w) (b := false) (f := a.eval) hl hh (Nat.le_refl _) q4 q5 q6
      refine snd_pure sat trivial ?_ trivial ?_
      · simp only [execOp, ho, x3, SV.val, Instr.sliceAt, Instr.slice, Sem.run_bind, hu, Result.andThen_ok, Option.map_none, hsz, hb]
        simp only [Option.isSome_none, Bool.false_eq_true, if_false, Sem.run_bind, Sem.run_pure, Result.andThen_ok, hb]
        congr 3
        apply ByteArray.ext
        simp
      · show (List.take _ _).length ≤ LIM
        simp only [List.length_take, List.length_drop]
        have : l.length ≤ LIM := x4
        omega
    · rename_i i ti hti
      split at hR
      · cases hR
      · rename_i ow T es p te hnc hl hte
        have hnc : ∀ k, ow ≠ .cs k := fun k e => hnc k (by rw [e])
        cases hR
        obtain ⟨_, ⟨q1, q2, q3⟩, q4, q5, q6, q7, q8⟩ := hob
        obtain ⟨x3, x4⟩ := x2 (q1 rfl)
        have hL := hl_lv sat hl hnc
        obtain ⟨hle, cap, ad, hv, hcap⟩ := lv_len hL
        have hll := evO_sound hlo q2 sat
        have hhh := evO_sound hhi q3 sat
        have hu := run_und (hT _ _ hti) w
        rw [q7] at hu
        have hsz := run_size (hT _ _ hte) w
        have hb := run_sliceBounds (P := P) (w := w) (b := true) (f := a.eval) hll hhh hcap q4 q5 q6
        generalize hal : (ln.getD 0).toNat = l at *
        generalize hah : (hn.getD (es.length : Int)).toNat = h at *
        have hlh : l ≤ h ∧ h ≤ es.length := by omega
        obtain ⟨f', hL', hsub⟩ := sub_lv (l := l) (h := h) hL hv hlh.1 hlh.2
        obtain ⟨rs, hrs⟩ : ∃ rs, viewA ow i = .vw rs := by
          cases ow <;> first | exact ⟨_, rfl⟩ | exact absurd rfl (hnc _)
        have hview : ViewOk w0.heap.size F S.A ϕ S.n f' rs := by
          refine viewOk_of sat.hp sat.hb hl trivial hsub ?_ ?_ ?_ (by simp)
          · cases ow <;> simp only [viewA, Own.vw.injEq] at hrs <;> subst hrs <;> simp [roots]
          · cases ow <;> simp only [viewA, Own.vw.injEq] at hrs <;> subst hrs <;> simp [roots] <;> exact fun r hr => .inr hr
          · cases ow with
            | vw rs' => right; simp [owned]
            | _ => left; simp only [viewA, Own.vw.injEq] at hrs; subst hrs; simp
        have hsl : ((es.drop l).take (h - l)).length = h - l := by simp; omega
        have hpth : PthOk S.A β w (gv (.slice (if cap = l then ad else ad.map fun x => x.add (l * T.wd)) (h - l) (cap - l))) rs T ((es.drop l).take (h - l)) (pathA ow i l) := by
          have main : ow = .dp ∨ ow = .sh → PthOk S.A β w (gv (.slice (if cap = l then ad else ad.map fun x => x.add (l * T.wd)) (h - l) (cap - l))) rs T ((es.drop l).take (h - l)) (.sub i l) := by
            intro how
            refine ⟨?_, es, p, ?_, by rw [hsl]; omega, by rw [hsl], ad, es.length, cap, hv, by rw [hsl]; rfl⟩
            · rcases how with rfl | rfl <;> (simp only [viewA, Own.vw.injEq] at hrs; subst hrs; simp)
            · rcases how with rfl | rfl
              · exact .inl hl
              · exact .inr hl
          cases ow with
          | dp => exact main (.inl rfl)
          | sh => exact main (.inr rfl)
          | _ => trivial
        obtain ⟨c1, c2⟩ := add_view (n := S.n) sat.hp sat.hb hL' hview hpth
        rw [hrs]
        refine ⟨hle, _, w, _, _, .inl ?_, ⟨fun _ => rfl, fun k hk => upd_lt _ _ _ hk, c1, c2, Nat.lt_succ_self _, trivial, Nat.le_succ _, sat.fr⟩, fun h => by simp [stillP, convP, ho] at h, fun _ => Fr.refl _ _⟩
        simp only [SV.val, hv] at x3
        simp only [execOp, ho, x3, SV.val, upd_eq, gv, Instr.sliceAt, Instr.slice, Sem.run_bind, hu, Result.andThen_ok, Option.map_none, hb, hsz, Sem.run_pure, q8]
      · cases hR
    · cases hR
  · cases hR

end
end Go.Proofs.Ytmjjdfhpnckacab
