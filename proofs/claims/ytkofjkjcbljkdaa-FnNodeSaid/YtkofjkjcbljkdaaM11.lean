/-
  Part 11 of the proof of FnNode: a verification-condition generator over the program and the contracts of its functions, in the order of their use.
  Conditions: none.
-/
import Derived.Test.YtkofjkjcbljkdaaM10
set_option linter.unusedVariables false
set_option linter.unusedSimpArgs false
set_option linter.unusedSectionVars false

section
namespace Go.Proofs.Ytkofjkjcbljkdaa
variable [LaidG]
open Go.ChangeShapes Go.WideShapes Go.ChangeAt Go.RowKit
set_option linter.unusedVariables false

/-- The parameters of a law. -/
inductive ArgTys (P : Program) : List Nat → List (Md × PTy) → Prop
  | nil : ArgTys P [] []
  | cons {t ts g l ats} : Dat P t g l → ArgTys P ts ats → ArgTys P (t :: ts) ((.rd, ptyOf g l) :: ats)

section
variable {H : Type} {enc : TypeId × Value → H} {P : Program} {W W' : World}

theorem okWide_agg {base : Nat} {t : Nat} {l : List PTy} {v : Value} (hd : Dat P t true l) (h : Value.okWide P W .any base t v) : ∃ cs, v = .agg cs := by
  cases hd with
  | struct ht _ _ _ =>
    unfold Value.okWide at h
    rw [ht] at h
    obtain ⟨cs, h, _⟩ := h
    exact ⟨cs, h⟩

theorem okWide_leaf {base : Nat} {t : Nat} {l : List PTy} {v : Value} (hd : Dat P t false l) (h : Value.okWide P W .any base t v) : v.cells.toList = [v] := by
  cases hd with
  | int ht _ => unfold Value.okWide Cell.okWide Cell.ok at h; rw [ht] at h; cases v <;> first | rfl | (simp at h)
  | bool ht _ => unfold Value.okWide Cell.okWide Cell.ok at h; rw [ht] at h; cases v <;> first | rfl | (simp at h)
  | str ht _ => unfold Value.okWide Cell.okWide Cell.ok at h; rw [ht] at h; cases v <;> first | rfl | (simp at h)
  | slice ht _ _ _ _ _ => unfold Value.okWide Cell.okWide Cell.ok at h; rw [ht] at h; cases v <;> first | rfl | (simp at h)

theorem arg_lv (K : Kids P (· < P.types.size)) (hdt : ∀ t g l, Dat P t g l → t < P.types.size) {base : Nat} {t : Nat} {g : Bool} {l : List PTy} {v : Value} {d : DataW H} {p : List MemPlace} (hd : Dat P t g l) (hk : Value.okWide P W .any base t v)
    (h : DataW.Trod enc P W 0 (fun _ => true) true t v d p) (hw : ∀ y ∈ d.weights P t, y ≤ reachBytes) : ∃ q f, ArgV W (ptyOf g l) q v f f := by
  obtain ⟨n, h⟩ := h
  obtain ⟨qs, f, hL⟩ := trod_lv K hdt n t g l _ (d, p) hd h hw
  cases g with
  | true =>
    obtain ⟨cs, rfl⟩ := okWide_agg hd hk
    exact ⟨.agg qs, f, qs, cs.toList, rfl, by simp, hL, rfl⟩
  | false =>
    rw [okWide_leaf hd hk] at hL
    obtain ⟨T, rfl, hn⟩ := dat_leaf hd
    have hl := hL.lens.1
    match qs, hl with
    | [q], _ =>
      refine ⟨q, f, ?_⟩
      show ArgV W T q v f f
      cases T with
      | agg ts => exact absurd rfl (hn ts)
      | box ts => cases hL
      | abx t => cases hL
      | fn g ts => cases hL
      | opq => cases hL
      | int k => exact ⟨hL, rfl⟩
      | bool => exact ⟨hL, rfl⟩
      | str => exact ⟨hL, rfl⟩
      | list t => exact ⟨hL, rfl⟩

theorem args_lv (K : Kids P (· < P.types.size)) (hdt : ∀ t g l, Dat P t g l → t < P.types.size) {base : Nat} : ∀ {ts : List Nat} {ats : List (Md × PTy)} {vs : List Value} {ds : List (DataW H)} {ps : List MemPlace}, ArgTys P ts ats →
    (∀ (j : Nat) t v, ts[j]? = some t → vs[j]? = some v → Value.okWide P W .any base t v) → DataW.TrodAll enc P W 0 (fun _ => true) true ts vs ds ps → (∀ y ∈ DataW.weightsEach P ts ds, y ≤ reachBytes) →
    ∃ qs fs, ArgsV W ats qs vs fs fs []
  | [], ats, vs, ds, ps, ha, hk, h, hw => by
    cases ha
    cases vs <;> cases ds <;> simp [DataW.TrodAll] at h
    exact ⟨[], [], .nil⟩
  | t :: ts, ats, [], ds, ps, ha, hk, h, hw => by cases ds <;> simp [DataW.TrodAll] at h
  | t :: ts, ats, v :: vs, [], ps, ha, hk, h, hw => by simp [DataW.TrodAll] at h
  | t :: ts, ats, v :: vs, d :: ds, ps, ha, hk, h, hw => by
    cases ha with
    | @cons _ _ g l ats' hd ha =>
      obtain ⟨p, q, h1, h2, rfl⟩ := h
      simp only [DataW.weightsEach, List.mem_append] at hw
      obtain ⟨q1, f1, k1⟩ := arg_lv K hdt hd (hk 0 t v (by simp) (by simp)) h1 (fun y hy => hw y (.inl hy))
      obtain ⟨qs, fs, k2⟩ := args_lv K hdt ha (fun j t' v' hj hv => hk (j + 1) t' v' (by simpa using hj) (by simpa using hv)) h2 (fun y hy => hw y (.inr hy))
      exact ⟨q1 :: qs, f1 ++ fs, .rd k1 k2⟩

theorem sameAt_fr (h : Fr W [] W') {p : MemPlace} (hp : p.block < W.heap.size) : W.sameAt W' p := by
  have hb := h.block p.block hp (by simp)
  cases p with
  | cell b o => simp only [World.sameAt, World.cell?]; rw [show W'.heap[b]? = W.heap[b]? from hb]
  | map b => exact hb

theorem trodAll_fr (h : Fr W [] W') {sp : Nat → Bool} : ∀ {ts : List TypeId} {vs : List Value} {ds : List (DataW H)} {ps : List MemPlace}, DataW.TrodAll enc P W 0 sp true ts vs ds ps → (∀ p ∈ ps, p.block < W.heap.size) → DataW.TrodAll enc P W' 0 sp true ts vs ds ps
  | [], [], [], _, h0, _ => h0
  | [], [], _ :: _, _, h0, _ => h0.elim
  | [], _ :: _, _, _, h0, _ => h0.elim
  | _ :: _, [], _, _, h0, _ => h0.elim
  | _ :: _, _ :: _, [], _, h0, _ => h0.elim
  | t :: ts, v :: vs, d :: ds, _, ⟨p, q, ⟨n, h1⟩, h2, e⟩, hl => by
    subst e
    exact ⟨p, q, ⟨n, DataW.trod_carry n t _ _ h1 fun x hx => sameAt_fr h (hl x (List.mem_append_left _ hx))⟩, trodAll_fr h h2 fun x hx => hl x (List.mem_append_right _ hx), rfl⟩

theorem keptBut_fr (h : Fr W [] W') (may : MemPlace → Prop) : W.keptBut W' may := by
  refine ⟨h.os, h.output, fun i hi => ?_⟩
  rw [h.block i hi (by simp)]
  have := (World.keptBut_refl W may).2.2 i hi
  exact this

/-- A law's contract is its row's. -/
theorem law_post {fn : Func} {f : FuncId} {s : ChangeSpec} {c : FSpec} {tb : Nat} {base : Nat} {args : Array Value} {ds gs : List (DataW H)} {before : List MemPlace} (hl : laidOutB P = true) (hmr : mapsRowed P = true)
    (hsl : ((List.range P.types.size).all fun t => match P.underlying t with | some (.slice e) => decide (0 < P.cellsOf e) | _ => true) = true)
    (hdt : ∀ t g l, Dat P t g l → t < P.types.size) (hm : Meets P f c) (hG : GlOk W []) (ha : ArgTys P fn.params.toList c.args) (hpar : ∀ t ∈ fn.params.toList, t < P.types.size) (hb : P.underlying tb = some .bool) (hres : fn.resultTypes = #[tb])
    (hv : s.vars = []) (hfn : ∀ H ds, ds.length = fn.params.size → (s.fn H ds).results = [.lit (.bool true)] ∧ (s.fn H ds).args = ds ∧ (s.fn H ds).vars = [])
    (hc : c.ret = [.bool] ∧ c.fresh = true ∧ (∀ ps, c.pre ps) ∧ ∀ ps, c.res ps = [.bool true]) (hrd : allRd c.args = true)
    (hval : ∀ (j : Nat) t v, fn.params[j]? = some t → args[j]? = some v → Value.okWide P W .any base t v)
    (hW : DataW.Whole enc P fn.params.toList s.vars false W args.toList ds gs before)
    (hwt : (DataW.weightsEach P (fn.params.toList ++ s.plain.varTypes P) (ds ++ gs)).all (· ≤ reachBytes) = true) :
    Calls P f args W fun e W' => ∃ v, e = .returned v ∧ s.post enc P fn false true false false W args v W' := by
  have hW' := hW
  have hlt := hW.lt
  obtain ⟨p, q, hA, hV, rfl, hfz, _⟩ := hW
  rw [hv] at hV
  have hg : gs = [] ∧ q = [] := by
    cases gs with
    | nil => exact ⟨rfl, hV⟩
    | cons _ _ => exact hV.elim
  obtain ⟨rfl, rfl⟩ := hg
  have hdl : ∀ {ts : List TypeId} {vs : List Value} {ds : List (DataW H)} {ps : List MemPlace}, DataW.TrodAll enc P W 0 (fun _ => true) true ts vs ds ps → ds.length = ts.length := by
    intro ts
    induction ts with
    | nil => intro vs ds ps h; cases vs <;> cases ds <;> simp [DataW.TrodAll] at h ⊢
    | cons t ts ih => intro vs ds ps h; cases vs <;> cases ds <;> simp [DataW.TrodAll] at h ⊢; obtain ⟨_, _, _, h2, _⟩ := h; exact ih h2
  have hlen := hdl hA
  have hvt : s.plain.varTypes P = [] := by simp [ChangeSpec.plain, DataSpec.varTypes, hv]
  simp only [List.append_nil, hvt] at hwt hW'
  have K := kids_rows hl hmr
  obtain ⟨qs, fs, hargs⟩ := args_lv K hdt ha (fun j t v hj hv' => hval j t v (by simpa using hj) (by simpa using hv')) hA (fun y hy => by simpa using List.all_eq_true.1 hwt y hy)
  obtain ⟨c1, c2, c3, c4⟩ := hc
  obtain ⟨r1, r2, r3⟩ := hfn H ds (by simpa using hlen)
  have hcall := hm W qs _ fs fs [] hargs (by simp) (by simp) (c3 qs) hG
  simp only [Array.toArray_toList] at hcall
  refine hcall.mono fun e W' he => ?_
  obtain ⟨rvs, rfl, hFr, hcase⟩ := he
  have hret : ∃ fr, RetVs W' c.ret (c.res qs) rvs fr := by
    rcases hcase with ⟨_, fr, mo, h, _⟩ | ⟨h, _⟩
    · exact ⟨fr, h⟩
    · rw [c2] at h; cases h
  obtain ⟨fr, hret⟩ := hret
  rw [c1, c4] at hret
  have hrv : rvs = [.bool true] := by
    cases hret with
    | cons h1 h2 =>
      cases h2
      obtain ⟨fs', h1, _⟩ := h1
      cases h1 with
      | bool h => cases h; rfl
  subst hrv
  have hsame : ∀ sp : Nat → Bool, (∀ x ∈ p, sp x.block = true) → DataW.TrodAll enc P W' 0 sp true fn.params.toList args.toList ds p := fun sp hsp =>
    trodAll_fr hFr (hA.respare (T := (· < P.types.size)) K (fun t e ht => slices_full_of P hsl t e ht) hpar hsp) (fun x hx => hlt x (by simp [hx]))
  refine ⟨_, rfl, ds, [], p, [], p, [], by simpa using hW', ?_, ?_, ?_, keptBut_fr hFr _, fun h => by cases h⟩
  · simp only [List.append_nil, r1, hres]
    exact trodAll_cons_mk (shut_bool hb _) trodAll_mk0
  · simp only [List.append_nil, r2]
    exact hsame _ fun x hx => by simpa using hlt x (by simp [hx])
  · simp only [List.append_nil, r3, hv]; rfl

end
end Go.Proofs.Ytkofjkjcbljkdaa
end

section
namespace Go.Proofs.Ytkofjkjcbljkdaa
variable [LaidG]
set_option maxRecDepth 100000

theorem lt2 : 2 < Try.prog.types.size := of_decide_eq_true (by kernel_rfl)
theorem D2 : Dat Try.prog 2 false [.int .i64] := .int Try.underlying2 lt2
theorem lt3 : 3 < Try.prog.types.size := of_decide_eq_true (by kernel_rfl)
theorem D3 : Dat Try.prog 3 false [.int .i64] := .int Try.underlying3 lt3
theorem lt4 : 4 < Try.prog.types.size := of_decide_eq_true (by kernel_rfl)
theorem D4 : Dat Try.prog 4 false [.bool] := .bool Try.underlying4 lt4
theorem lt5 : 5 < Try.prog.types.size := of_decide_eq_true (by kernel_rfl)
theorem D5 : Dat Try.prog 5 false [.int .u8] := .int Try.underlying5 lt5
theorem lt6 : 6 < Try.prog.types.size := of_decide_eq_true (by kernel_rfl)
theorem D6 : Dat Try.prog 6 false [.int .u8] := .int Try.underlying6 lt6
theorem lt7 : 7 < Try.prog.types.size := of_decide_eq_true (by kernel_rfl)
theorem D7 : Dat Try.prog 7 true [.int .i64, .int .i64, .bool, .int .u8] := .struct Try.underlying7 (.cons (l := [.int .i64]) (m := [.int .i64, .bool, .int .u8]) D2 (by kernel_rfl) (.cons (l := [.int .i64]) (m := [.bool, .int .u8]) D3 (by kernel_rfl) (.cons (l := [.bool]) (m := [.int .u8]) D4 (by kernel_rfl) (.cons (l := [.int .u8]) (m := []) D6 (by kernel_rfl) .nil)))) (by kernel_rfl) lt7
theorem lt8 : 8 < Try.prog.types.size := of_decide_eq_true (by kernel_rfl)
theorem D8 : Dat Try.prog 8 true [.int .i64, .int .i64, .bool, .int .u8] := .struct Try.underlying8 (.cons (l := [.int .i64]) (m := [.int .i64, .bool, .int .u8]) D2 (by kernel_rfl) (.cons (l := [.int .i64]) (m := [.bool, .int .u8]) D3 (by kernel_rfl) (.cons (l := [.bool]) (m := [.int .u8]) D4 (by kernel_rfl) (.cons (l := [.int .u8]) (m := []) D6 (by kernel_rfl) .nil)))) (by kernel_rfl) lt8
theorem lt9 : 9 < Try.prog.types.size := of_decide_eq_true (by kernel_rfl)
theorem D9 : Dat Try.prog 9 false [.str] := .str Try.underlying9 lt9
theorem lt10 : 10 < Try.prog.types.size := of_decide_eq_true (by kernel_rfl)
theorem D10 : Dat Try.prog 10 false [.str] := .str Try.underlying10 lt10
theorem lt11 : 11 < Try.prog.types.size := of_decide_eq_true (by kernel_rfl)
theorem D11 : Dat Try.prog 11 false [.str] := .str Try.underlying11 lt11
theorem lt12 : 12 < Try.prog.types.size := of_decide_eq_true (by kernel_rfl)
theorem D12 : Dat Try.prog 12 false [.int .u64] := .int Try.underlying12 lt12
theorem lt13 : 13 < Try.prog.types.size := of_decide_eq_true (by kernel_rfl)
theorem D13 : Dat Try.prog 13 true [.str, .int .u64] := .struct Try.underlying13 (.cons (l := [.str]) (m := [.int .u64]) D9 (by kernel_rfl) (.cons (l := [.int .u64]) (m := []) D12 (by kernel_rfl) .nil)) (by kernel_rfl) lt13
theorem lt14 : 14 < Try.prog.types.size := of_decide_eq_true (by kernel_rfl)
theorem D14 : Dat Try.prog 14 true [.str, .int .u64] := .struct Try.underlying14 (.cons (l := [.str]) (m := [.int .u64]) D9 (by kernel_rfl) (.cons (l := [.int .u64]) (m := []) D12 (by kernel_rfl) .nil)) (by kernel_rfl) lt14
theorem lt21 : 21 < Try.prog.types.size := of_decide_eq_true (by kernel_rfl)
theorem D21 : Dat Try.prog 21 false [.int .i32] := .int Try.underlying21 lt21
theorem lt22 : 22 < Try.prog.types.size := of_decide_eq_true (by kernel_rfl)
theorem D22 : Dat Try.prog 22 false [.list (.int .u8)] := .slice (e := 5) (g := false) (l := [.int .u8]) Try.underlying22 D5 (by kernel_rfl) (by decide) (of_decide_eq_true (by kernel_rfl)) lt22
theorem lt93 : 93 < Try.prog.types.size := of_decide_eq_true (by kernel_rfl)
theorem D93 : Dat Try.prog 93 true [.int .i64, .str] := .struct Try.underlying93 (.cons (l := [.int .i64]) (m := [.str]) D3 (by kernel_rfl) (.cons (l := [.str]) (m := []) D9 (by kernel_rfl) .nil)) (by kernel_rfl) lt93
theorem lt23 : 23 < Try.prog.types.size := of_decide_eq_true (by kernel_rfl)
theorem D23 : Dat Try.prog 23 false [.list (.agg [.int .i64, .str])] := .slice (e := 93) (g := true) (l := [.int .i64, .str]) Try.underlying23 D93 (by kernel_rfl) (by decide) (of_decide_eq_true (by kernel_rfl)) lt23
theorem lt24 : 24 < Try.prog.types.size := of_decide_eq_true (by kernel_rfl)
theorem D24 : Dat Try.prog 24 false [.list (.int .i64)] := .slice (e := 3) (g := false) (l := [.int .i64]) Try.underlying24 D3 (by kernel_rfl) (by decide) (of_decide_eq_true (by kernel_rfl)) lt24
theorem lt25 : 25 < Try.prog.types.size := of_decide_eq_true (by kernel_rfl)
theorem D25 : Dat Try.prog 25 true [.int .i64, .int .i64, .int .i64, .int .i64, .int .i64, .bool, .list (.agg [.int .i64, .str]), .int .i64, .int .i64, .int .i64, .list (.int .i64), .list (.int .i64), .list (.int .i64)] := .struct Try.underlying25 (.cons (l := [.int .i64]) (m := [.int .i64, .int .i64, .int .i64, .int .i64, .bool, .list (.agg [.int .i64, .str]), .int .i64, .int .i64, .int .i64, .list (.int .i64), .list (.int .i64), .list (.int .i64)]) D3 (by kernel_rfl) (.cons (l := [.int .i64]) (m := [.int .i64, .int .i64, .int .i64, .bool, .list (.agg [.int .i64, .str]), .int .i64, .int .i64, .int .i64, .list (.int .i64), .list (.int .i64), .list (.int .i64)]) D3 (by kernel_rfl) (.cons (l := [.int .i64]) (m := [.int .i64, .int .i64, .bool, .list (.agg [.int .i64, .str]), .int .i64, .int .i64, .int .i64, .list (.int .i64), .list (.int .i64), .list (.int .i64)]) D3 (by kernel_rfl) (.cons (l := [.int .i64]) (m := [.int .i64, .bool, .list (.agg [.int .i64, .str]), .int .i64, .int .i64, .int .i64, .list (.int .i64), .list (.int .i64), .list (.int .i64)]) D3 (by kernel_rfl) (.cons (l := [.int .i64]) (m := [.bool, .list (.agg [.int .i64, .str]), .int .i64, .int .i64, .int .i64, .list (.int .i64), .list (.int .i64), .list (.int .i64)]) D3 (by kernel_rfl) (.cons (l := [.bool]) (m := [.list (.agg [.int .i64, .str]), .int .i64, .int .i64, .int .i64, .list (.int .i64), .list (.int .i64), .list (.int .i64)]) D4 (by kernel_rfl) (.cons (l := [.list (.agg [.int .i64, .str])]) (m := [.int .i64, .int .i64, .int .i64, .list (.int .i64), .list (.int .i64), .list (.int .i64)]) D23 (by kernel_rfl) (.cons (l := [.int .i64]) (m := [.int .i64, .int .i64, .list (.int .i64), .list (.int .i64), .list (.int .i64)]) D3 (by kernel_rfl) (.cons (l := [.int .i64]) (m := [.int .i64, .list (.int .i64), .list (.int .i64), .list (.int .i64)]) D3 (by kernel_rfl) (.cons (l := [.int .i64]) (m := [.list (.int .i64), .list (.int .i64), .list (.int .i64)]) D3 (by kernel_rfl) (.cons (l := [.list (.int .i64)]) (m := [.list (.int .i64), .list (.int .i64)]) D24 (by kernel_rfl) (.cons (l := [.list (.int .i64)]) (m := [.list (.int .i64)]) D24 (by kernel_rfl) (.cons (l := [.list (.int .i64)]) (m := []) D24 (by kernel_rfl) .nil))))))))))))) (by kernel_rfl) lt25
theorem lt26 : 26 < Try.prog.types.size := of_decide_eq_true (by kernel_rfl)
theorem D26 : Dat Try.prog 26 true [.int .i64, .int .i64, .int .i64, .int .i64, .int .i64, .bool, .list (.agg [.int .i64, .str]), .int .i64, .int .i64, .int .i64, .list (.int .i64), .list (.int .i64), .list (.int .i64)] := .struct Try.underlying26 (.cons (l := [.int .i64]) (m := [.int .i64, .int .i64, .int .i64, .int .i64, .bool, .list (.agg [.int .i64, .str]), .int .i64, .int .i64, .int .i64, .list (.int .i64), .list (.int .i64), .list (.int .i64)]) D3 (by kernel_rfl) (.cons (l := [.int .i64]) (m := [.int .i64, .int .i64, .int .i64, .bool, .list (.agg [.int .i64, .str]), .int .i64, .int .i64, .int .i64, .list (.int .i64), .list (.int .i64), .list (.int .i64)]) D3 (by kernel_rfl) (.cons (l := [.int .i64]) (m := [.int .i64, .int .i64, .bool, .list (.agg [.int .i64, .str]), .int .i64, .int .i64, .int .i64, .list (.int .i64), .list (.int .i64), .list (.int .i64)]) D3 (by kernel_rfl) (.cons (l := [.int .i64]) (m := [.int .i64, .bool, .list (.agg [.int .i64, .str]), .int .i64, .int .i64, .int .i64, .list (.int .i64), .list (.int .i64), .list (.int .i64)]) D3 (by kernel_rfl) (.cons (l := [.int .i64]) (m := [.bool, .list (.agg [.int .i64, .str]), .int .i64, .int .i64, .int .i64, .list (.int .i64), .list (.int .i64), .list (.int .i64)]) D3 (by kernel_rfl) (.cons (l := [.bool]) (m := [.list (.agg [.int .i64, .str]), .int .i64, .int .i64, .int .i64, .list (.int .i64), .list (.int .i64), .list (.int .i64)]) D4 (by kernel_rfl) (.cons (l := [.list (.agg [.int .i64, .str])]) (m := [.int .i64, .int .i64, .int .i64, .list (.int .i64), .list (.int .i64), .list (.int .i64)]) D23 (by kernel_rfl) (.cons (l := [.int .i64]) (m := [.int .i64, .int .i64, .list (.int .i64), .list (.int .i64), .list (.int .i64)]) D3 (by kernel_rfl) (.cons (l := [.int .i64]) (m := [.int .i64, .list (.int .i64), .list (.int .i64), .list (.int .i64)]) D3 (by kernel_rfl) (.cons (l := [.int .i64]) (m := [.list (.int .i64), .list (.int .i64), .list (.int .i64)]) D3 (by kernel_rfl) (.cons (l := [.list (.int .i64)]) (m := [.list (.int .i64), .list (.int .i64)]) D24 (by kernel_rfl) (.cons (l := [.list (.int .i64)]) (m := [.list (.int .i64)]) D24 (by kernel_rfl) (.cons (l := [.list (.int .i64)]) (m := []) D24 (by kernel_rfl) .nil))))))))))))) (by kernel_rfl) lt26
theorem lt29 : 29 < Try.prog.types.size := of_decide_eq_true (by kernel_rfl)
theorem D29 : Dat Try.prog 29 true [.int .i64, .int .i64, .int .i64, .int .i64, .int .i64, .int .i64, .int .i64, .bool, .list (.agg [.int .i64, .str])] := .struct Try.underlying29 (.cons (l := [.int .i64]) (m := [.int .i64, .int .i64, .int .i64, .int .i64, .int .i64, .int .i64, .bool, .list (.agg [.int .i64, .str])]) D3 (by kernel_rfl) (.cons (l := [.int .i64]) (m := [.int .i64, .int .i64, .int .i64, .int .i64, .int .i64, .bool, .list (.agg [.int .i64, .str])]) D3 (by kernel_rfl) (.cons (l := [.int .i64]) (m := [.int .i64, .int .i64, .int .i64, .int .i64, .bool, .list (.agg [.int .i64, .str])]) D3 (by kernel_rfl) (.cons (l := [.int .i64]) (m := [.int .i64, .int .i64, .int .i64, .bool, .list (.agg [.int .i64, .str])]) D3 (by kernel_rfl) (.cons (l := [.int .i64]) (m := [.int .i64, .int .i64, .bool, .list (.agg [.int .i64, .str])]) D3 (by kernel_rfl) (.cons (l := [.int .i64]) (m := [.int .i64, .bool, .list (.agg [.int .i64, .str])]) D3 (by kernel_rfl) (.cons (l := [.int .i64]) (m := [.bool, .list (.agg [.int .i64, .str])]) D3 (by kernel_rfl) (.cons (l := [.bool]) (m := [.list (.agg [.int .i64, .str])]) D4 (by kernel_rfl) (.cons (l := [.list (.agg [.int .i64, .str])]) (m := []) D23 (by kernel_rfl) .nil))))))))) (by kernel_rfl) lt29
theorem lt30 : 30 < Try.prog.types.size := of_decide_eq_true (by kernel_rfl)
theorem D30 : Dat Try.prog 30 true [.int .i64, .int .i64, .int .i64, .int .i64, .int .i64, .int .i64, .int .i64, .bool, .list (.agg [.int .i64, .str])] := .struct Try.underlying30 (.cons (l := [.int .i64]) (m := [.int .i64, .int .i64, .int .i64, .int .i64, .int .i64, .int .i64, .bool, .list (.agg [.int .i64, .str])]) D3 (by kernel_rfl) (.cons (l := [.int .i64]) (m := [.int .i64, .int .i64, .int .i64, .int .i64, .int .i64, .bool, .list (.agg [.int .i64, .str])]) D3 (by kernel_rfl) (.cons (l := [.int .i64]) (m := [.int .i64, .int .i64, .int .i64, .int .i64, .bool, .list (.agg [.int .i64, .str])]) D3 (by kernel_rfl) (.cons (l := [.int .i64]) (m := [.int .i64, .int .i64, .int .i64, .bool, .list (.agg [.int .i64, .str])]) D3 (by kernel_rfl) (.cons (l := [.int .i64]) (m := [.int .i64, .int .i64, .bool, .list (.agg [.int .i64, .str])]) D3 (by kernel_rfl) (.cons (l := [.int .i64]) (m := [.int .i64, .bool, .list (.agg [.int .i64, .str])]) D3 (by kernel_rfl) (.cons (l := [.int .i64]) (m := [.bool, .list (.agg [.int .i64, .str])]) D3 (by kernel_rfl) (.cons (l := [.bool]) (m := [.list (.agg [.int .i64, .str])]) D4 (by kernel_rfl) (.cons (l := [.list (.agg [.int .i64, .str])]) (m := []) D23 (by kernel_rfl) .nil))))))))) (by kernel_rfl) lt30
theorem lt32 : 32 < Try.prog.types.size := of_decide_eq_true (by kernel_rfl)
theorem D32 : Dat Try.prog 32 false [.list (.agg [.int .i64, .int .i64, .int .i64, .int .i64, .int .i64, .int .i64, .int .i64, .bool, .list (.agg [.int .i64, .str])])] := .slice (e := 30) (g := true) (l := [.int .i64, .int .i64, .int .i64, .int .i64, .int .i64, .int .i64, .int .i64, .bool, .list (.agg [.int .i64, .str])]) Try.underlying32 D30 (by kernel_rfl) (by decide) (of_decide_eq_true (by kernel_rfl)) lt32
theorem lt40 : 40 < Try.prog.types.size := of_decide_eq_true (by kernel_rfl)
theorem D40 : Dat Try.prog 40 false [.list (.str)] := .slice (e := 9) (g := false) (l := [.str]) Try.underlying40 D9 (by kernel_rfl) (by decide) (of_decide_eq_true (by kernel_rfl)) lt40
theorem lt76 : 76 < Try.prog.types.size := of_decide_eq_true (by kernel_rfl)
theorem D76 : Dat Try.prog 76 true [.int .i64, .str] := .struct Try.underlying76 (.cons (l := [.int .i64]) (m := [.str]) D3 (by kernel_rfl) (.cons (l := [.str]) (m := []) D9 (by kernel_rfl) .nil)) (by kernel_rfl) lt76
theorem lt46 : 46 < Try.prog.types.size := of_decide_eq_true (by kernel_rfl)
theorem D46 : Dat Try.prog 46 false [.list (.agg [.int .i64, .str])] := .slice (e := 76) (g := true) (l := [.int .i64, .str]) Try.underlying46 D76 (by kernel_rfl) (by decide) (of_decide_eq_true (by kernel_rfl)) lt46
theorem lt47 : 47 < Try.prog.types.size := of_decide_eq_true (by kernel_rfl)
theorem D47 : Dat Try.prog 47 true [.int .i64, .int .i64, .bool, .int .i64, .int .i64, .list (.agg [.int .i64, .str])] := .struct Try.underlying47 (.cons (l := [.int .i64]) (m := [.int .i64, .bool, .int .i64, .int .i64, .list (.agg [.int .i64, .str])]) D3 (by kernel_rfl) (.cons (l := [.int .i64]) (m := [.bool, .int .i64, .int .i64, .list (.agg [.int .i64, .str])]) D3 (by kernel_rfl) (.cons (l := [.bool]) (m := [.int .i64, .int .i64, .list (.agg [.int .i64, .str])]) D4 (by kernel_rfl) (.cons (l := [.int .i64]) (m := [.int .i64, .list (.agg [.int .i64, .str])]) D3 (by kernel_rfl) (.cons (l := [.int .i64]) (m := [.list (.agg [.int .i64, .str])]) D3 (by kernel_rfl) (.cons (l := [.list (.agg [.int .i64, .str])]) (m := []) D46 (by kernel_rfl) .nil)))))) (by kernel_rfl) lt47
theorem lt48 : 48 < Try.prog.types.size := of_decide_eq_true (by kernel_rfl)
theorem D48 : Dat Try.prog 48 true [.int .i64, .int .i64, .bool, .int .i64, .int .i64, .list (.agg [.int .i64, .str])] := .struct Try.underlying48 (.cons (l := [.int .i64]) (m := [.int .i64, .bool, .int .i64, .int .i64, .list (.agg [.int .i64, .str])]) D3 (by kernel_rfl) (.cons (l := [.int .i64]) (m := [.bool, .int .i64, .int .i64, .list (.agg [.int .i64, .str])]) D3 (by kernel_rfl) (.cons (l := [.bool]) (m := [.int .i64, .int .i64, .list (.agg [.int .i64, .str])]) D4 (by kernel_rfl) (.cons (l := [.int .i64]) (m := [.int .i64, .list (.agg [.int .i64, .str])]) D3 (by kernel_rfl) (.cons (l := [.int .i64]) (m := [.list (.agg [.int .i64, .str])]) D3 (by kernel_rfl) (.cons (l := [.list (.agg [.int .i64, .str])]) (m := []) D46 (by kernel_rfl) .nil)))))) (by kernel_rfl) lt48
theorem lt75 : 75 < Try.prog.types.size := of_decide_eq_true (by kernel_rfl)
theorem D75 : Dat Try.prog 75 true [.int .i64, .str] := .struct Try.underlying75 (.cons (l := [.int .i64]) (m := [.str]) D3 (by kernel_rfl) (.cons (l := [.str]) (m := []) D9 (by kernel_rfl) .nil)) (by kernel_rfl) lt75
theorem lt82 : 82 < Try.prog.types.size := of_decide_eq_true (by kernel_rfl)
theorem D82 : Dat Try.prog 82 true [.list (.int .u8), .int .i64, .int .i64] := .struct Try.underlying82 (.cons (l := [.list (.int .u8)]) (m := [.int .i64, .int .i64]) D22 (by kernel_rfl) (.cons (l := [.int .i64]) (m := [.int .i64]) D3 (by kernel_rfl) (.cons (l := [.int .i64]) (m := []) D3 (by kernel_rfl) .nil))) (by kernel_rfl) lt82
theorem lt83 : 83 < Try.prog.types.size := of_decide_eq_true (by kernel_rfl)
theorem D83 : Dat Try.prog 83 true [.list (.int .u8), .int .i64, .int .i64] := .struct Try.underlying83 (.cons (l := [.list (.int .u8)]) (m := [.int .i64, .int .i64]) D22 (by kernel_rfl) (.cons (l := [.int .i64]) (m := [.int .i64]) D3 (by kernel_rfl) (.cons (l := [.int .i64]) (m := []) D3 (by kernel_rfl) .nil))) (by kernel_rfl) lt83
theorem lt86 : 86 < Try.prog.types.size := of_decide_eq_true (by kernel_rfl)
theorem D86 : Dat Try.prog 86 true [.int .i64, .int .i64, .list (.agg [.int .i64, .str])] := .struct Try.underlying86 (.cons (l := [.int .i64]) (m := [.int .i64, .list (.agg [.int .i64, .str])]) D3 (by kernel_rfl) (.cons (l := [.int .i64]) (m := [.list (.agg [.int .i64, .str])]) D3 (by kernel_rfl) (.cons (l := [.list (.agg [.int .i64, .str])]) (m := []) D23 (by kernel_rfl) .nil))) (by kernel_rfl) lt86
theorem lt87 : 87 < Try.prog.types.size := of_decide_eq_true (by kernel_rfl)
theorem D87 : Dat Try.prog 87 true [.int .i64, .int .i64, .list (.agg [.int .i64, .str])] := .struct Try.underlying87 (.cons (l := [.int .i64]) (m := [.int .i64, .list (.agg [.int .i64, .str])]) D3 (by kernel_rfl) (.cons (l := [.int .i64]) (m := [.list (.agg [.int .i64, .str])]) D3 (by kernel_rfl) (.cons (l := [.list (.agg [.int .i64, .str])]) (m := []) D23 (by kernel_rfl) .nil))) (by kernel_rfl) lt87
theorem lt92 : 92 < Try.prog.types.size := of_decide_eq_true (by kernel_rfl)
theorem D92 : Dat Try.prog 92 true [.int .i64, .str] := .struct Try.underlying92 (.cons (l := [.int .i64]) (m := [.str]) D3 (by kernel_rfl) (.cons (l := [.str]) (m := []) D9 (by kernel_rfl) .nil)) (by kernel_rfl) lt92
theorem lt109 : 109 < Try.prog.types.size := of_decide_eq_true (by kernel_rfl)
theorem D109 : Dat Try.prog 109 true [.int .i64, .int .i64, .int .i64, .int .i64, .int .i64, .bool, .list (.agg [.int .i64, .str]), .int .i64, .int .i64, .int .i64, .list (.int .i64), .list (.int .i64), .list (.int .i64), .list (.agg [.int .i64, .int .i64, .int .i64, .int .i64, .int .i64, .int .i64, .int .i64, .bool, .list (.agg [.int .i64, .str])])] := .struct Try.underlying109 (.cons (l := [.int .i64, .int .i64, .int .i64, .int .i64, .int .i64, .bool, .list (.agg [.int .i64, .str]), .int .i64, .int .i64, .int .i64, .list (.int .i64), .list (.int .i64), .list (.int .i64)]) (m := [.list (.agg [.int .i64, .int .i64, .int .i64, .int .i64, .int .i64, .int .i64, .int .i64, .bool, .list (.agg [.int .i64, .str])])]) D26 (by kernel_rfl) (.cons (l := [.list (.agg [.int .i64, .int .i64, .int .i64, .int .i64, .int .i64, .int .i64, .int .i64, .bool, .list (.agg [.int .i64, .str])])]) (m := []) D32 (by kernel_rfl) .nil)) (by kernel_rfl) lt109
theorem lt110 : 110 < Try.prog.types.size := of_decide_eq_true (by kernel_rfl)
theorem D110 : Dat Try.prog 110 true [.int .i64, .int .i64, .int .i64, .int .i64, .int .i64, .bool, .list (.agg [.int .i64, .str]), .int .i64, .int .i64, .int .i64, .list (.int .i64), .list (.int .i64), .list (.int .i64), .list (.agg [.int .i64, .int .i64, .int .i64, .int .i64, .int .i64, .int .i64, .int .i64, .bool, .list (.agg [.int .i64, .str])])] := .struct Try.underlying110 (.cons (l := [.int .i64, .int .i64, .int .i64, .int .i64, .int .i64, .bool, .list (.agg [.int .i64, .str]), .int .i64, .int .i64, .int .i64, .list (.int .i64), .list (.int .i64), .list (.int .i64)]) (m := [.list (.agg [.int .i64, .int .i64, .int .i64, .int .i64, .int .i64, .int .i64, .int .i64, .bool, .list (.agg [.int .i64, .str])])]) D26 (by kernel_rfl) (.cons (l := [.list (.agg [.int .i64, .int .i64, .int .i64, .int .i64, .int .i64, .int .i64, .int .i64, .bool, .list (.agg [.int .i64, .str])])]) (m := []) D32 (by kernel_rfl) .nil)) (by kernel_rfl) lt110
theorem lt146 : 146 < Try.prog.types.size := of_decide_eq_true (by kernel_rfl)
theorem D146 : Dat Try.prog 146 true [.int .i64, .int .i64] := .struct Try.underlying146 (.cons (l := [.int .i64]) (m := [.int .i64]) D3 (by kernel_rfl) (.cons (l := [.int .i64]) (m := []) D3 (by kernel_rfl) .nil)) (by kernel_rfl) lt146
theorem lt114 : 114 < Try.prog.types.size := of_decide_eq_true (by kernel_rfl)
theorem D114 : Dat Try.prog 114 false [.list (.agg [.int .i64, .int .i64])] := .slice (e := 146) (g := true) (l := [.int .i64, .int .i64]) Try.underlying114 D146 (by kernel_rfl) (by decide) (of_decide_eq_true (by kernel_rfl)) lt114
theorem lt115 : 115 < Try.prog.types.size := of_decide_eq_true (by kernel_rfl)
theorem D115 : Dat Try.prog 115 true [.int .i64, .int .i64, .int .i64, .int .i64, .int .i64, .int .i64, .int .i64, .int .i64, .int .i64, .str, .list (.agg [.int .i64, .int .i64]), .list (.str)] := .struct Try.underlying115 (.cons (l := [.int .i64]) (m := [.int .i64, .int .i64, .int .i64, .int .i64, .int .i64, .int .i64, .int .i64, .int .i64, .str, .list (.agg [.int .i64, .int .i64]), .list (.str)]) D3 (by kernel_rfl) (.cons (l := [.int .i64]) (m := [.int .i64, .int .i64, .int .i64, .int .i64, .int .i64, .int .i64, .int .i64, .str, .list (.agg [.int .i64, .int .i64]), .list (.str)]) D3 (by kernel_rfl) (.cons (l := [.int .i64]) (m := [.int .i64, .int .i64, .int .i64, .int .i64, .int .i64, .int .i64, .str, .list (.agg [.int .i64, .int .i64]), .list (.str)]) D3 (by kernel_rfl) (.cons (l := [.int .i64]) (m := [.int .i64, .int .i64, .int .i64, .int .i64, .int .i64, .str, .list (.agg [.int .i64, .int .i64]), .list (.str)]) D3 (by kernel_rfl) (.cons (l := [.int .i64]) (m := [.int .i64, .int .i64, .int .i64, .int .i64, .str, .list (.agg [.int .i64, .int .i64]), .list (.str)]) D3 (by kernel_rfl) (.cons (l := [.int .i64]) (m := [.int .i64, .int .i64, .int .i64, .str, .list (.agg [.int .i64, .int .i64]), .list (.str)]) D3 (by kernel_rfl) (.cons (l := [.int .i64]) (m := [.int .i64, .int .i64, .str, .list (.agg [.int .i64, .int .i64]), .list (.str)]) D3 (by kernel_rfl) (.cons (l := [.int .i64]) (m := [.int .i64, .str, .list (.agg [.int .i64, .int .i64]), .list (.str)]) D3 (by kernel_rfl) (.cons (l := [.int .i64]) (m := [.str, .list (.agg [.int .i64, .int .i64]), .list (.str)]) D3 (by kernel_rfl) (.cons (l := [.str]) (m := [.list (.agg [.int .i64, .int .i64]), .list (.str)]) D9 (by kernel_rfl) (.cons (l := [.list (.agg [.int .i64, .int .i64])]) (m := [.list (.str)]) D114 (by kernel_rfl) (.cons (l := [.list (.str)]) (m := []) D40 (by kernel_rfl) .nil)))))))))))) (by kernel_rfl) lt115
theorem lt116 : 116 < Try.prog.types.size := of_decide_eq_true (by kernel_rfl)
theorem D116 : Dat Try.prog 116 true [.int .i64, .int .i64, .int .i64, .int .i64, .int .i64, .int .i64, .int .i64, .int .i64, .int .i64, .str, .list (.agg [.int .i64, .int .i64]), .list (.str)] := .struct Try.underlying116 (.cons (l := [.int .i64]) (m := [.int .i64, .int .i64, .int .i64, .int .i64, .int .i64, .int .i64, .int .i64, .int .i64, .str, .list (.agg [.int .i64, .int .i64]), .list (.str)]) D3 (by kernel_rfl) (.cons (l := [.int .i64]) (m := [.int .i64, .int .i64, .int .i64, .int .i64, .int .i64, .int .i64, .int .i64, .str, .list (.agg [.int .i64, .int .i64]), .list (.str)]) D3 (by kernel_rfl) (.cons (l := [.int .i64]) (m := [.int .i64, .int .i64, .int .i64, .int .i64, .int .i64, .int .i64, .str, .list (.agg [.int .i64, .int .i64]), .list (.str)]) D3 (by kernel_rfl) (.cons (l := [.int .i64]) (m := [.int .i64, .int .i64, .int .i64, .int .i64, .int .i64, .str, .list (.agg [.int .i64, .int .i64]), .list (.str)]) D3 (by kernel_rfl) (.cons (l := [.int .i64]) (m := [.int .i64, .int .i64, .int .i64, .int .i64, .str, .list (.agg [.int .i64, .int .i64]), .list (.str)]) D3 (by kernel_rfl) (.cons (l := [.int .i64]) (m := [.int .i64, .int .i64, .int .i64, .str, .list (.agg [.int .i64, .int .i64]), .list (.str)]) D3 (by kernel_rfl) (.cons (l := [.int .i64]) (m := [.int .i64, .int .i64, .str, .list (.agg [.int .i64, .int .i64]), .list (.str)]) D3 (by kernel_rfl) (.cons (l := [.int .i64]) (m := [.int .i64, .str, .list (.agg [.int .i64, .int .i64]), .list (.str)]) D3 (by kernel_rfl) (.cons (l := [.int .i64]) (m := [.str, .list (.agg [.int .i64, .int .i64]), .list (.str)]) D3 (by kernel_rfl) (.cons (l := [.str]) (m := [.list (.agg [.int .i64, .int .i64]), .list (.str)]) D9 (by kernel_rfl) (.cons (l := [.list (.agg [.int .i64, .int .i64])]) (m := [.list (.str)]) D114 (by kernel_rfl) (.cons (l := [.list (.str)]) (m := []) D40 (by kernel_rfl) .nil)))))))))))) (by kernel_rfl) lt116
theorem lt118 : 118 < Try.prog.types.size := of_decide_eq_true (by kernel_rfl)
theorem D118 : Dat Try.prog 118 true [.int .i64, .list (.int .i64), .bool, .str, .str] := .struct Try.underlying118 (.cons (l := [.int .i64]) (m := [.list (.int .i64), .bool, .str, .str]) D3 (by kernel_rfl) (.cons (l := [.list (.int .i64)]) (m := [.bool, .str, .str]) D24 (by kernel_rfl) (.cons (l := [.bool]) (m := [.str, .str]) D4 (by kernel_rfl) (.cons (l := [.str]) (m := [.str]) D9 (by kernel_rfl) (.cons (l := [.str]) (m := []) D9 (by kernel_rfl) .nil))))) (by kernel_rfl) lt118
theorem lt119 : 119 < Try.prog.types.size := of_decide_eq_true (by kernel_rfl)
theorem D119 : Dat Try.prog 119 true [.int .i64, .list (.int .i64), .bool, .str, .str] := .struct Try.underlying119 (.cons (l := [.int .i64]) (m := [.list (.int .i64), .bool, .str, .str]) D3 (by kernel_rfl) (.cons (l := [.list (.int .i64)]) (m := [.bool, .str, .str]) D24 (by kernel_rfl) (.cons (l := [.bool]) (m := [.str, .str]) D4 (by kernel_rfl) (.cons (l := [.str]) (m := [.str]) D9 (by kernel_rfl) (.cons (l := [.str]) (m := []) D9 (by kernel_rfl) .nil))))) (by kernel_rfl) lt119
theorem lt140 : 140 < Try.prog.types.size := of_decide_eq_true (by kernel_rfl)
theorem D140 : Dat Try.prog 140 false [.int .u64] := .int Try.underlying140 lt140
theorem lt145 : 145 < Try.prog.types.size := of_decide_eq_true (by kernel_rfl)
theorem D145 : Dat Try.prog 145 true [.int .i64, .int .i64] := .struct Try.underlying145 (.cons (l := [.int .i64]) (m := [.int .i64]) D3 (by kernel_rfl) (.cons (l := [.int .i64]) (m := []) D3 (by kernel_rfl) .nil)) (by kernel_rfl) lt145
theorem lt157 : 157 < Try.prog.types.size := of_decide_eq_true (by kernel_rfl)
theorem D157 : Dat Try.prog 157 true [.int .i64, .int .i64, .bool, .list (.int .i64), .str] := .struct Try.underlying157 (.cons (l := [.int .i64]) (m := [.int .i64, .bool, .list (.int .i64), .str]) D3 (by kernel_rfl) (.cons (l := [.int .i64]) (m := [.bool, .list (.int .i64), .str]) D3 (by kernel_rfl) (.cons (l := [.bool]) (m := [.list (.int .i64), .str]) D4 (by kernel_rfl) (.cons (l := [.list (.int .i64)]) (m := [.str]) D24 (by kernel_rfl) (.cons (l := [.str]) (m := []) D9 (by kernel_rfl) .nil))))) (by kernel_rfl) lt157
theorem lt148 : 148 < Try.prog.types.size := of_decide_eq_true (by kernel_rfl)
theorem D148 : Dat Try.prog 148 false [.list (.agg [.int .i64, .int .i64, .bool, .list (.int .i64), .str])] := .slice (e := 157) (g := true) (l := [.int .i64, .int .i64, .bool, .list (.int .i64), .str]) Try.underlying148 D157 (by kernel_rfl) (by decide) (of_decide_eq_true (by kernel_rfl)) lt148
theorem lt153 : 153 < Try.prog.types.size := of_decide_eq_true (by kernel_rfl)
theorem D153 : Dat Try.prog 153 true [.int .i64, .int .i64, .int .i64, .int .i64, .int .i64, .int .i64, .int .i64, .int .i64, .int .i64, .str, .list (.agg [.int .i64, .int .i64]), .list (.str)] := .struct Try.underlying153 (.cons (l := [.int .i64, .int .i64, .int .i64, .int .i64, .int .i64, .int .i64, .int .i64, .int .i64, .int .i64, .str, .list (.agg [.int .i64, .int .i64]), .list (.str)]) (m := []) D116 (by kernel_rfl) .nil) (by kernel_rfl) lt153
theorem lt154 : 154 < Try.prog.types.size := of_decide_eq_true (by kernel_rfl)
theorem D154 : Dat Try.prog 154 true [.int .i64, .int .i64, .int .i64, .int .i64, .int .i64, .int .i64, .int .i64, .int .i64, .int .i64, .str, .list (.agg [.int .i64, .int .i64]), .list (.str)] := .struct Try.underlying154 (.cons (l := [.int .i64, .int .i64, .int .i64, .int .i64, .int .i64, .int .i64, .int .i64, .int .i64, .int .i64, .str, .list (.agg [.int .i64, .int .i64]), .list (.str)]) (m := []) D116 (by kernel_rfl) .nil) (by kernel_rfl) lt154
theorem lt156 : 156 < Try.prog.types.size := of_decide_eq_true (by kernel_rfl)
theorem D156 : Dat Try.prog 156 true [.int .i64, .int .i64, .bool, .list (.int .i64), .str] := .struct Try.underlying156 (.cons (l := [.int .i64]) (m := [.int .i64, .bool, .list (.int .i64), .str]) D3 (by kernel_rfl) (.cons (l := [.int .i64]) (m := [.bool, .list (.int .i64), .str]) D3 (by kernel_rfl) (.cons (l := [.bool]) (m := [.list (.int .i64), .str]) D4 (by kernel_rfl) (.cons (l := [.list (.int .i64)]) (m := [.str]) D24 (by kernel_rfl) (.cons (l := [.str]) (m := []) D9 (by kernel_rfl) .nil))))) (by kernel_rfl) lt156
theorem lt173 : 173 < Try.prog.types.size := of_decide_eq_true (by kernel_rfl)
theorem D173 : Dat Try.prog 173 true [.int .i64, .list (.int .i64), .bool, .str, .str, .list (.agg [.int .i64, .int .i64, .bool, .list (.int .i64), .str])] := .struct Try.underlying173 (.cons (l := [.int .i64, .list (.int .i64), .bool, .str, .str]) (m := [.list (.agg [.int .i64, .int .i64, .bool, .list (.int .i64), .str])]) D119 (by kernel_rfl) (.cons (l := [.list (.agg [.int .i64, .int .i64, .bool, .list (.int .i64), .str])]) (m := []) D148 (by kernel_rfl) .nil)) (by kernel_rfl) lt173
theorem lt174 : 174 < Try.prog.types.size := of_decide_eq_true (by kernel_rfl)
theorem D174 : Dat Try.prog 174 true [.int .i64, .list (.int .i64), .bool, .str, .str, .list (.agg [.int .i64, .int .i64, .bool, .list (.int .i64), .str])] := .struct Try.underlying174 (.cons (l := [.int .i64, .list (.int .i64), .bool, .str, .str]) (m := [.list (.agg [.int .i64, .int .i64, .bool, .list (.int .i64), .str])]) D119 (by kernel_rfl) (.cons (l := [.list (.agg [.int .i64, .int .i64, .bool, .list (.int .i64), .str])]) (m := []) D148 (by kernel_rfl) .nil)) (by kernel_rfl) lt174
theorem lt189 : 189 < Try.prog.types.size := of_decide_eq_true (by kernel_rfl)
theorem D189 : Dat Try.prog 189 false [.int .u32] := .int Try.underlying189 lt189
theorem lt192 : 192 < Try.prog.types.size := of_decide_eq_true (by kernel_rfl)
theorem D192 : Dat Try.prog 192 false [.int .u64] := .int Try.underlying192 lt192
theorem lt201 : 201 < Try.prog.types.size := of_decide_eq_true (by kernel_rfl)
theorem D201 : Dat Try.prog 201 false [.int .u8] := .int Try.underlying201 lt201
theorem lt202 : 202 < Try.prog.types.size := of_decide_eq_true (by kernel_rfl)
theorem D202 : Dat Try.prog 202 false [.int .u8] := .int Try.underlying202 lt202
theorem lt204 : 204 < Try.prog.types.size := of_decide_eq_true (by kernel_rfl)
theorem D204 : Dat Try.prog 204 false [.int .i32] := .int Try.underlying204 lt204
theorem lt205 : 205 < Try.prog.types.size := of_decide_eq_true (by kernel_rfl)
theorem D205 : Dat Try.prog 205 false [.int .i32] := .int Try.underlying205 lt205

theorem dat_lt : ∀ t g l, Dat Try.prog t g l → t < Try.prog.types.size := fun _ _ _ h => h.lt
theorem laid_all : laidOutB Try.prog = true := by kernel_rfl
theorem rowed_all : mapsRowed Try.prog = true := by kernel_rfl
theorem slices_all : ((List.range Try.prog.types.size).all fun t => match Try.prog.underlying t with | some (.slice e) => decide (0 < Try.prog.cellsOf e) | _ => true) = true := by kernel_rfl
theorem own_knob : ownKnob Try.prog.godebug = none := by kernel_rfl

end Go.Proofs.Ytkofjkjcbljkdaa
end

