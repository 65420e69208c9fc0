/-
  Part 8 of the proof of FnExactClientOK: a verification-condition generator over the program and the contracts of its functions, in the order of their use.
  Conditions: none.
-/
import Derived.Test.YtolgjekokdimoaaDoorM7
import Derived.Lib.LaidTab
set_option linter.unusedVariables false
set_option linter.unusedSimpArgs false

section
namespace Go.Proofs.YtolgjekokdimoaaDoor
open Go.ChangeShapes Go.WideShapes Go.ChangeAt Go.RowKit
set_option linter.unusedVariables false

/-- The parameters of a law. -/
inductive ArgTys (P : Program) : List Nat → List (Md × PTy) → Prop
  | nil : ArgTys P [] []
  | cons {t ts g l ats} : Dat P t g l → ArgTys P ts ats → ArgTys P (t :: ts) ((.rd, ptyOf g l) :: ats)

section
variable {H : Type} {enc : TypeId × Value → H} {P : Program} {W W' : World}

theorem okWide_agg {base : Nat} {t : Nat} {l : List PTy} {v : Value} (hd : Dat P t true l) (h : Value.okWide P W .any base t v) : ∃ cs, v = .agg cs := by
  cases hd with
  | struct ht _ _ _ =>
    unfold Value.okWide at h
    rw [ht] at h
    obtain ⟨cs, h, _⟩ := h
    exact ⟨cs, h⟩

theorem okWide_leaf {base : Nat} {t : Nat} {l : List PTy} {v : Value} (hd : Dat P t false l) (h : Value.okWide P W .any base t v) : v.cells.toList = [v] := by
  cases hd with
  | int ht _ => unfold Value.okWide Cell.okWide Cell.ok at h; rw [ht] at h; cases v <;> first | rfl | (simp at h)
  | bool ht _ => unfold Value.okWide Cell.okWide Cell.ok at h; rw [ht] at h; cases v <;> first | rfl | (simp at h)
  | str ht _ => unfold Value.okWide Cell.okWide Cell.ok at h; rw [ht] at h; cases v <;> first | rfl | (simp at h)
  | slice ht _ _ _ _ _ => unfold Value.okWide Cell.okWide Cell.ok at h; rw [ht] at h; cases v <;> first | rfl | (simp at h)

theorem arg_lv (K : Kids P (· < P.types.size)) (hdt : ∀ t g l, Dat P t g l → t < P.types.size) {base : Nat} {t : Nat} {g : Bool} {l : List PTy} {v : Value} {d : DataW H} {p : List MemPlace} (hd : Dat P t g l) (hk : Value.okWide P W .any base t v)
    (h : DataW.Trod enc P W 0 (fun _ => true) true t v d p) (hw : ∀ y ∈ d.weights P t, y ≤ reachBytes) : ∃ q f, ArgV W (ptyOf g l) q v f f := by
  obtain ⟨n, h⟩ := h
  obtain ⟨qs, f, hL⟩ := trod_lv K hdt n t g l _ (d, p) hd h hw
  cases g with
  | true =>
    obtain ⟨cs, rfl⟩ := okWide_agg hd hk
    exact ⟨.agg qs, f, qs, cs.toList, rfl, by simp, hL, rfl⟩
  | false =>
    rw [okWide_leaf hd hk] at hL
    obtain ⟨T, rfl, hn⟩ := dat_leaf hd
    have hl := hL.lens.1
    match qs, hl with
    | [q], _ =>
      refine ⟨q, f, ?_⟩
      show ArgV W T q v f f
      cases T with
      | agg ts => exact absurd rfl (hn ts)
      | box ts => cases hL
      | abx t => cases hL
      | fn g ts => cases hL
      | opq => cases hL
      | int k => exact ⟨hL, rfl⟩
      | bool => exact ⟨hL, rfl⟩
      | str => exact ⟨hL, rfl⟩
      | list t => exact ⟨hL, rfl⟩

theorem args_lv (K : Kids P (· < P.types.size)) (hdt : ∀ t g l, Dat P t g l → t < P.types.size) {base : Nat} : ∀ {ts : List Nat} {ats : List (Md × PTy)} {vs : List Value} {ds : List (DataW H)} {ps : List MemPlace}, ArgTys P ts ats →
    (∀ (j : Nat) t v, ts[j]? = some t → vs[j]? = some v → Value.okWide P W .any base t v) → DataW.TrodAll enc P W 0 (fun _ => true) true ts vs ds ps → (∀ y ∈ DataW.weightsEach P ts ds, y ≤ reachBytes) →
    ∃ qs fs, ArgsV W ats qs vs fs fs []
  | [], ats, vs, ds, ps, ha, hk, h, hw => by
    cases ha
    cases vs <;> cases ds <;> simp [DataW.TrodAll] at h
    exact ⟨[], [], .nil⟩
  | t :: ts, ats, [], ds, ps, ha, hk, h, hw => by cases ds <;> simp [DataW.TrodAll] at h
  | t :: ts, ats, v :: vs, [], ps, ha, hk, h, hw => by simp [DataW.TrodAll] at h
  | t :: ts, ats, v :: vs, d :: ds, ps, ha, hk, h, hw => by
    cases ha with
    | @cons _ _ g l ats' hd ha =>
      obtain ⟨p, q, h1, h2, rfl⟩ := h
      simp only [DataW.weightsEach, List.mem_append] at hw
      obtain ⟨q1, f1, k1⟩ := arg_lv K hdt hd (hk 0 t v (by simp) (by simp)) h1 (fun y hy => hw y (.inl hy))
      obtain ⟨qs, fs, k2⟩ := args_lv K hdt ha (fun j t' v' hj hv => hk (j + 1) t' v' (by simpa using hj) (by simpa using hv)) h2 (fun y hy => hw y (.inr hy))
      exact ⟨q1 :: qs, f1 ++ fs, .rd k1 k2⟩

theorem sameAt_fr (h : Fr W [] W') {p : MemPlace} (hp : p.block < W.heap.size) : W.sameAt W' p := by
  have hb := h.block p.block hp (by simp)
  cases p with
  | cell b o => simp only [World.sameAt, World.cell?]; rw [show W'.heap[b]? = W.heap[b]? from hb]
  | map b => exact hb

theorem trodAll_fr (h : Fr W [] W') {sp : Nat → Bool} : ∀ {ts : List TypeId} {vs : List Value} {ds : List (DataW H)} {ps : List MemPlace}, DataW.TrodAll enc P W 0 sp true ts vs ds ps → (∀ p ∈ ps, p.block < W.heap.size) → DataW.TrodAll enc P W' 0 sp true ts vs ds ps
  | [], [], [], _, h0, _ => h0
  | [], [], _ :: _, _, h0, _ => h0.elim
  | [], _ :: _, _, _, h0, _ => h0.elim
  | _ :: _, [], _, _, h0, _ => h0.elim
  | _ :: _, _ :: _, [], _, h0, _ => h0.elim
  | t :: ts, v :: vs, d :: ds, _, ⟨p, q, ⟨n, h1⟩, h2, e⟩, hl => by
    subst e
    exact ⟨p, q, ⟨n, DataW.trod_carry n t _ _ h1 fun x hx => sameAt_fr h (hl x (List.mem_append_left _ hx))⟩, trodAll_fr h h2 fun x hx => hl x (List.mem_append_right _ hx), rfl⟩

theorem keptBut_fr (h : Fr W [] W') (may : MemPlace → Prop) : W.keptBut W' may := by
  refine ⟨h.os, h.output, fun i hi => ?_⟩
  rw [h.block i hi (by simp)]
  have := (World.keptBut_refl W may).2.2 i hi
  exact this

/-- A law's contract is its row's. -/
theorem law_post {fn : Func} {f : FuncId} {s : ChangeSpec} {c : FSpec} {tb : Nat} {base : Nat} {args : Array Value} {ds gs : List (DataW H)} {before : List MemPlace} (hl : laidOutB P = true) (hmr : mapsRowed P = true)
    (hsl : ((List.range P.types.size).all fun t => match P.underlying t with | some (.slice e) => decide (0 < P.cellsOf e) | _ => true) = true)
    (hdt : ∀ t g l, Dat P t g l → t < P.types.size) (hm : Meets P f c) (hG : GlOk W []) (ha : ArgTys P fn.params.toList c.args) (hpar : ∀ t ∈ fn.params.toList, t < P.types.size) (hb : P.underlying tb = some .bool) (hres : fn.resultTypes = #[tb])
    (hv : s.vars = []) (hfn : ∀ H ds, ds.length = fn.params.size → (s.fn H ds).results = [.lit (.bool true)] ∧ (s.fn H ds).args = ds ∧ (s.fn H ds).vars = [])
    (hc : c.ret = [.bool] ∧ c.fresh = true ∧ (∀ ps, c.pre ps) ∧ ∀ ps, c.res ps = [.bool true]) (hrd : allRd c.args = true)
    (hval : ∀ (j : Nat) t v, fn.params[j]? = some t → args[j]? = some v → Value.okWide P W .any base t v)
    (hW : DataW.Whole enc P fn.params.toList s.vars false W args.toList ds gs before)
    (hwt : (DataW.weightsEach P (fn.params.toList ++ s.plain.varTypes P) (ds ++ gs)).all (· ≤ reachBytes) = true) :
    Calls P f args W fun e W' => ∃ v, e = .returned v ∧ s.post enc P fn false true false false W args v W' := by
  have hW' := hW
  have hlt := hW.lt
  obtain ⟨p, q, hA, hV, rfl, hfz, _⟩ := hW
  rw [hv] at hV
  have hg : gs = [] ∧ q = [] := by
    cases gs with
    | nil => exact ⟨rfl, hV⟩
    | cons _ _ => exact hV.elim
  obtain ⟨rfl, rfl⟩ := hg
  have hdl : ∀ {ts : List TypeId} {vs : List Value} {ds : List (DataW H)} {ps : List MemPlace}, DataW.TrodAll enc P W 0 (fun _ => true) true ts vs ds ps → ds.length = ts.length := by
    intro ts
    induction ts with
    | nil => intro vs ds ps h; cases vs <;> cases ds <;> simp [DataW.TrodAll] at h ⊢
    | cons t ts ih => intro vs ds ps h; cases vs <;> cases ds <;> simp [DataW.TrodAll] at h ⊢; obtain ⟨_, _, _, h2, _⟩ := h; exact ih h2
  have hlen := hdl hA
  have hvt : s.plain.varTypes P = [] := by simp [ChangeSpec.plain, DataSpec.varTypes, hv]
  simp only [List.append_nil, hvt] at hwt hW'
  have K := kids_rows hl hmr
  obtain ⟨qs, fs, hargs⟩ := args_lv K hdt ha (fun j t v hj hv' => hval j t v (by simpa using hj) (by simpa using hv')) hA (fun y hy => by simpa using List.all_eq_true.1 hwt y hy)
  obtain ⟨c1, c2, c3, c4⟩ := hc
  obtain ⟨r1, r2, r3⟩ := hfn H ds (by simpa using hlen)
  have hcall := hm W qs _ fs fs [] hargs (by simp) (by simp) (c3 qs) hG
  simp only [Array.toArray_toList] at hcall
  refine hcall.mono fun e W' he => ?_
  obtain ⟨rvs, rfl, hFr, hcase⟩ := he
  have hret : ∃ fr, RetVs W' c.ret (c.res qs) rvs fr := by
    rcases hcase with ⟨_, fr, mo, h, _⟩ | ⟨h, _⟩
    · exact ⟨fr, h⟩
    · rw [c2] at h; cases h
  obtain ⟨fr, hret⟩ := hret
  rw [c1, c4] at hret
  have hrv : rvs = [.bool true] := by
    cases hret with
    | cons h1 h2 =>
      cases h2
      obtain ⟨fs', h1, _⟩ := h1
      cases h1 with
      | bool h => cases h; rfl
  subst hrv
  have hsame : ∀ sp : Nat → Bool, (∀ x ∈ p, sp x.block = true) → DataW.TrodAll enc P W' 0 sp true fn.params.toList args.toList ds p := fun sp hsp =>
    trodAll_fr hFr (hA.respare (T := (· < P.types.size)) K (fun t e ht => slices_full_of P hsl t e ht) hpar hsp) (fun x hx => hlt x (by simp [hx]))
  refine ⟨_, rfl, ds, [], p, [], p, [], by simpa using hW', ?_, ?_, ?_, keptBut_fr hFr _, fun h => by cases h⟩
  · simp only [List.append_nil, r1, hres]
    exact trodAll_cons_mk (shut_bool hb _) trodAll_mk0
  · simp only [List.append_nil, r2]
    exact hsame _ fun x hx => by simpa using hlt x (by simp [hx])
  · simp only [List.append_nil, r3, hv]; rfl

end
end Go.Proofs.YtolgjekokdimoaaDoor
end

section
namespace Go.Proofs.YtolgjekokdimoaaDoor
set_option maxRecDepth 100000

theorem lt2 : 2 < Tryd.prog.types.size := of_decide_eq_true (by kernel_rfl)
theorem D2 : Dat Tryd.prog 2 false [.int .i64] := .int Tryd.underlying2 lt2
theorem lt3 : 3 < Tryd.prog.types.size := of_decide_eq_true (by kernel_rfl)
theorem D3 : Dat Tryd.prog 3 false [.int .i64] := .int Tryd.underlying3 lt3
theorem lt4 : 4 < Tryd.prog.types.size := of_decide_eq_true (by kernel_rfl)
theorem D4 : Dat Tryd.prog 4 false [.bool] := .bool Tryd.underlying4 lt4
theorem lt5 : 5 < Tryd.prog.types.size := of_decide_eq_true (by kernel_rfl)
theorem D5 : Dat Tryd.prog 5 false [.int .u8] := .int Tryd.underlying5 lt5
theorem lt6 : 6 < Tryd.prog.types.size := of_decide_eq_true (by kernel_rfl)
theorem D6 : Dat Tryd.prog 6 false [.int .u8] := .int Tryd.underlying6 lt6
theorem lt7 : 7 < Tryd.prog.types.size := of_decide_eq_true (by kernel_rfl)
theorem D7 : Dat Tryd.prog 7 true [.int .i64, .int .i64, .bool, .int .u8] := .struct Tryd.underlying7 (.cons (l := [.int .i64]) (m := [.int .i64, .bool, .int .u8]) D2 (by kernel_rfl) (.cons (l := [.int .i64]) (m := [.bool, .int .u8]) D3 (by kernel_rfl) (.cons (l := [.bool]) (m := [.int .u8]) D4 (by kernel_rfl) (.cons (l := [.int .u8]) (m := []) D6 (by kernel_rfl) .nil)))) (by kernel_rfl) lt7
theorem lt8 : 8 < Tryd.prog.types.size := of_decide_eq_true (by kernel_rfl)
theorem D8 : Dat Tryd.prog 8 true [.int .i64, .int .i64, .bool, .int .u8] := .struct Tryd.underlying8 (.cons (l := [.int .i64]) (m := [.int .i64, .bool, .int .u8]) D2 (by kernel_rfl) (.cons (l := [.int .i64]) (m := [.bool, .int .u8]) D3 (by kernel_rfl) (.cons (l := [.bool]) (m := [.int .u8]) D4 (by kernel_rfl) (.cons (l := [.int .u8]) (m := []) D6 (by kernel_rfl) .nil)))) (by kernel_rfl) lt8
theorem lt9 : 9 < Tryd.prog.types.size := of_decide_eq_true (by kernel_rfl)
theorem D9 : Dat Tryd.prog 9 false [.str] := .str Tryd.underlying9 lt9
theorem lt10 : 10 < Tryd.prog.types.size := of_decide_eq_true (by kernel_rfl)
theorem D10 : Dat Tryd.prog 10 false [.str] := .str Tryd.underlying10 lt10
theorem lt11 : 11 < Tryd.prog.types.size := of_decide_eq_true (by kernel_rfl)
theorem D11 : Dat Tryd.prog 11 false [.str] := .str Tryd.underlying11 lt11
theorem lt12 : 12 < Tryd.prog.types.size := of_decide_eq_true (by kernel_rfl)
theorem D12 : Dat Tryd.prog 12 false [.int .u64] := .int Tryd.underlying12 lt12
theorem lt13 : 13 < Tryd.prog.types.size := of_decide_eq_true (by kernel_rfl)
theorem D13 : Dat Tryd.prog 13 true [.str, .int .u64] := .struct Tryd.underlying13 (.cons (l := [.str]) (m := [.int .u64]) D9 (by kernel_rfl) (.cons (l := [.int .u64]) (m := []) D12 (by kernel_rfl) .nil)) (by kernel_rfl) lt13
theorem lt14 : 14 < Tryd.prog.types.size := of_decide_eq_true (by kernel_rfl)
theorem D14 : Dat Tryd.prog 14 true [.str, .int .u64] := .struct Tryd.underlying14 (.cons (l := [.str]) (m := [.int .u64]) D9 (by kernel_rfl) (.cons (l := [.int .u64]) (m := []) D12 (by kernel_rfl) .nil)) (by kernel_rfl) lt14
theorem lt21 : 21 < Tryd.prog.types.size := of_decide_eq_true (by kernel_rfl)
theorem D21 : Dat Tryd.prog 21 false [.int .i32] := .int Tryd.underlying21 lt21
theorem lt25 : 25 < Tryd.prog.types.size := of_decide_eq_true (by kernel_rfl)
theorem D25 : Dat Tryd.prog 25 false [.list (.str)] := .slice (e := 9) (g := false) (l := [.str]) Tryd.underlying25 D9 (by kernel_rfl) (by decide) (of_decide_eq_true (by kernel_rfl)) lt25
theorem lt26 : 26 < Tryd.prog.types.size := of_decide_eq_true (by kernel_rfl)
theorem D26 : Dat Tryd.prog 26 true [.int .i64, .int .i64, .int .i64, .list (.str)] := .struct Tryd.underlying26 (.cons (l := [.int .i64]) (m := [.int .i64, .int .i64, .list (.str)]) D3 (by kernel_rfl) (.cons (l := [.int .i64]) (m := [.int .i64, .list (.str)]) D3 (by kernel_rfl) (.cons (l := [.int .i64]) (m := [.list (.str)]) D3 (by kernel_rfl) (.cons (l := [.list (.str)]) (m := []) D25 (by kernel_rfl) .nil)))) (by kernel_rfl) lt26
theorem lt27 : 27 < Tryd.prog.types.size := of_decide_eq_true (by kernel_rfl)
theorem D27 : Dat Tryd.prog 27 true [.int .i64, .int .i64, .int .i64, .list (.str)] := .struct Tryd.underlying27 (.cons (l := [.int .i64]) (m := [.int .i64, .int .i64, .list (.str)]) D3 (by kernel_rfl) (.cons (l := [.int .i64]) (m := [.int .i64, .list (.str)]) D3 (by kernel_rfl) (.cons (l := [.int .i64]) (m := [.list (.str)]) D3 (by kernel_rfl) (.cons (l := [.list (.str)]) (m := []) D25 (by kernel_rfl) .nil)))) (by kernel_rfl) lt27
theorem lt28 : 28 < Tryd.prog.types.size := of_decide_eq_true (by kernel_rfl)
theorem D28 : Dat Tryd.prog 28 true [.int .i64, .str, .str, .int .i64, .int .i64, .int .i64, .list (.str)] := .struct Tryd.underlying28 (.cons (l := [.int .i64]) (m := [.str, .str, .int .i64, .int .i64, .int .i64, .list (.str)]) D3 (by kernel_rfl) (.cons (l := [.str]) (m := [.str, .int .i64, .int .i64, .int .i64, .list (.str)]) D9 (by kernel_rfl) (.cons (l := [.str]) (m := [.int .i64, .int .i64, .int .i64, .list (.str)]) D9 (by kernel_rfl) (.cons (l := [.int .i64, .int .i64, .int .i64, .list (.str)]) (m := []) D27 (by kernel_rfl) .nil)))) (by kernel_rfl) lt28
theorem lt29 : 29 < Tryd.prog.types.size := of_decide_eq_true (by kernel_rfl)
theorem D29 : Dat Tryd.prog 29 true [.int .i64, .str, .str, .int .i64, .int .i64, .int .i64, .list (.str)] := .struct Tryd.underlying29 (.cons (l := [.int .i64]) (m := [.str, .str, .int .i64, .int .i64, .int .i64, .list (.str)]) D3 (by kernel_rfl) (.cons (l := [.str]) (m := [.str, .int .i64, .int .i64, .int .i64, .list (.str)]) D9 (by kernel_rfl) (.cons (l := [.str]) (m := [.int .i64, .int .i64, .int .i64, .list (.str)]) D9 (by kernel_rfl) (.cons (l := [.int .i64, .int .i64, .int .i64, .list (.str)]) (m := []) D27 (by kernel_rfl) .nil)))) (by kernel_rfl) lt29
theorem lt35 : 35 < Tryd.prog.types.size := of_decide_eq_true (by kernel_rfl)
theorem D35 : Dat Tryd.prog 35 true [.int .i64, .int .i64, .int .i64, .list (.str)] := .struct Tryd.underlying35 (.cons (l := [.int .i64]) (m := [.int .i64, .int .i64, .list (.str)]) D3 (by kernel_rfl) (.cons (l := [.int .i64]) (m := [.int .i64, .list (.str)]) D3 (by kernel_rfl) (.cons (l := [.int .i64]) (m := [.list (.str)]) D3 (by kernel_rfl) (.cons (l := [.list (.str)]) (m := []) D25 (by kernel_rfl) .nil)))) (by kernel_rfl) lt35
theorem lt36 : 36 < Tryd.prog.types.size := of_decide_eq_true (by kernel_rfl)
theorem D36 : Dat Tryd.prog 36 true [.int .i64, .str, .str, .int .i64, .int .i64, .int .i64, .list (.str)] := .struct Tryd.underlying36 (.cons (l := [.int .i64]) (m := [.str, .str, .int .i64, .int .i64, .int .i64, .list (.str)]) D3 (by kernel_rfl) (.cons (l := [.str]) (m := [.str, .int .i64, .int .i64, .int .i64, .list (.str)]) D9 (by kernel_rfl) (.cons (l := [.str]) (m := [.int .i64, .int .i64, .int .i64, .list (.str)]) D9 (by kernel_rfl) (.cons (l := [.int .i64, .int .i64, .int .i64, .list (.str)]) (m := []) D35 (by kernel_rfl) .nil)))) (by kernel_rfl) lt36
theorem lt37 : 37 < Tryd.prog.types.size := of_decide_eq_true (by kernel_rfl)
theorem D37 : Dat Tryd.prog 37 true [.int .i64, .str, .str, .int .i64, .int .i64, .int .i64, .list (.str)] := .struct Tryd.underlying37 (.cons (l := [.int .i64]) (m := [.str, .str, .int .i64, .int .i64, .int .i64, .list (.str)]) D3 (by kernel_rfl) (.cons (l := [.str]) (m := [.str, .int .i64, .int .i64, .int .i64, .list (.str)]) D9 (by kernel_rfl) (.cons (l := [.str]) (m := [.int .i64, .int .i64, .int .i64, .list (.str)]) D9 (by kernel_rfl) (.cons (l := [.int .i64, .int .i64, .int .i64, .list (.str)]) (m := []) D35 (by kernel_rfl) .nil)))) (by kernel_rfl) lt37
theorem lt42 : 42 < Tryd.prog.types.size := of_decide_eq_true (by kernel_rfl)
theorem D42 : Dat Tryd.prog 42 true [.int .i64, .int .i64, .int .i64, .int .i64, .int .i64, .int .i64, .bool, .str, .str] := .struct Tryd.underlying42 (.cons (l := [.int .i64]) (m := [.int .i64, .int .i64, .int .i64, .int .i64, .int .i64, .bool, .str, .str]) D3 (by kernel_rfl) (.cons (l := [.int .i64]) (m := [.int .i64, .int .i64, .int .i64, .int .i64, .bool, .str, .str]) D3 (by kernel_rfl) (.cons (l := [.int .i64]) (m := [.int .i64, .int .i64, .int .i64, .bool, .str, .str]) D3 (by kernel_rfl) (.cons (l := [.int .i64]) (m := [.int .i64, .int .i64, .bool, .str, .str]) D3 (by kernel_rfl) (.cons (l := [.int .i64]) (m := [.int .i64, .bool, .str, .str]) D3 (by kernel_rfl) (.cons (l := [.int .i64]) (m := [.bool, .str, .str]) D3 (by kernel_rfl) (.cons (l := [.bool]) (m := [.str, .str]) D4 (by kernel_rfl) (.cons (l := [.str]) (m := [.str]) D9 (by kernel_rfl) (.cons (l := [.str]) (m := []) D9 (by kernel_rfl) .nil))))))))) (by kernel_rfl) lt42
theorem lt43 : 43 < Tryd.prog.types.size := of_decide_eq_true (by kernel_rfl)
theorem D43 : Dat Tryd.prog 43 true [.int .i64, .int .i64, .int .i64, .int .i64, .int .i64, .int .i64, .bool, .str, .str] := .struct Tryd.underlying43 (.cons (l := [.int .i64]) (m := [.int .i64, .int .i64, .int .i64, .int .i64, .int .i64, .bool, .str, .str]) D3 (by kernel_rfl) (.cons (l := [.int .i64]) (m := [.int .i64, .int .i64, .int .i64, .int .i64, .bool, .str, .str]) D3 (by kernel_rfl) (.cons (l := [.int .i64]) (m := [.int .i64, .int .i64, .int .i64, .bool, .str, .str]) D3 (by kernel_rfl) (.cons (l := [.int .i64]) (m := [.int .i64, .int .i64, .bool, .str, .str]) D3 (by kernel_rfl) (.cons (l := [.int .i64]) (m := [.int .i64, .bool, .str, .str]) D3 (by kernel_rfl) (.cons (l := [.int .i64]) (m := [.bool, .str, .str]) D3 (by kernel_rfl) (.cons (l := [.bool]) (m := [.str, .str]) D4 (by kernel_rfl) (.cons (l := [.str]) (m := [.str]) D9 (by kernel_rfl) (.cons (l := [.str]) (m := []) D9 (by kernel_rfl) .nil))))))))) (by kernel_rfl) lt43
theorem lt63 : 63 < Tryd.prog.types.size := of_decide_eq_true (by kernel_rfl)
theorem D63 : Dat Tryd.prog 63 false [.list (.int .i64)] := .slice (e := 3) (g := false) (l := [.int .i64]) Tryd.underlying63 D3 (by kernel_rfl) (by decide) (of_decide_eq_true (by kernel_rfl)) lt63
theorem lt91 : 91 < Tryd.prog.types.size := of_decide_eq_true (by kernel_rfl)
theorem D91 : Dat Tryd.prog 91 false [.list (.int .u8)] := .slice (e := 5) (g := false) (l := [.int .u8]) Tryd.underlying91 D5 (by kernel_rfl) (by decide) (of_decide_eq_true (by kernel_rfl)) lt91
theorem lt93 : 93 < Tryd.prog.types.size := of_decide_eq_true (by kernel_rfl)
theorem D93 : Dat Tryd.prog 93 false [.int .u64] := .int Tryd.underlying93 lt93
theorem lt96 : 96 < Tryd.prog.types.size := of_decide_eq_true (by kernel_rfl)
theorem D96 : Dat Tryd.prog 96 true [.int .i64, .int .i64] := .struct Tryd.underlying96 (.cons (l := [.int .i64]) (m := [.int .i64]) D3 (by kernel_rfl) (.cons (l := [.int .i64]) (m := []) D3 (by kernel_rfl) .nil)) (by kernel_rfl) lt96
theorem lt97 : 97 < Tryd.prog.types.size := of_decide_eq_true (by kernel_rfl)
theorem D97 : Dat Tryd.prog 97 true [.int .i64, .int .i64] := .struct Tryd.underlying97 (.cons (l := [.int .i64]) (m := [.int .i64]) D3 (by kernel_rfl) (.cons (l := [.int .i64]) (m := []) D3 (by kernel_rfl) .nil)) (by kernel_rfl) lt97
theorem lt102 : 102 < Tryd.prog.types.size := of_decide_eq_true (by kernel_rfl)
theorem D102 : Dat Tryd.prog 102 false [.int .u32] := .int Tryd.underlying102 lt102
theorem lt103 : 103 < Tryd.prog.types.size := of_decide_eq_true (by kernel_rfl)
theorem D103 : Dat Tryd.prog 103 false [.list (.int .u32)] := .slice (e := 102) (g := false) (l := [.int .u32]) Tryd.underlying103 D102 (by kernel_rfl) (by decide) (of_decide_eq_true (by kernel_rfl)) lt103
theorem lt112 : 112 < Tryd.prog.types.size := of_decide_eq_true (by kernel_rfl)
theorem D112 : Dat Tryd.prog 112 false [.int .i64] := .int Tryd.underlying112 lt112
theorem lt124 : 124 < Tryd.prog.types.size := of_decide_eq_true (by kernel_rfl)
theorem D124 : Dat Tryd.prog 124 false [.int .u64] := .int Tryd.underlying124 lt124
theorem lt156 : 156 < Tryd.prog.types.size := of_decide_eq_true (by kernel_rfl)
theorem D156 : Dat Tryd.prog 156 true [.str] := .struct Tryd.underlying156 (.cons (l := [.str]) (m := []) D9 (by kernel_rfl) .nil) (by kernel_rfl) lt156
theorem lt157 : 157 < Tryd.prog.types.size := of_decide_eq_true (by kernel_rfl)
theorem D157 : Dat Tryd.prog 157 true [.str] := .struct Tryd.underlying157 (.cons (l := [.str]) (m := []) D9 (by kernel_rfl) .nil) (by kernel_rfl) lt157
theorem lt159 : 159 < Tryd.prog.types.size := of_decide_eq_true (by kernel_rfl)
theorem D159 : Dat Tryd.prog 159 true [.int .u8, .int .u8] := .struct Tryd.underlying159 (.cons (l := [.int .u8]) (m := [.int .u8]) D5 (by kernel_rfl) (.cons (l := [.int .u8]) (m := []) D5 (by kernel_rfl) .nil)) (by kernel_rfl) lt159
theorem lt160 : 160 < Tryd.prog.types.size := of_decide_eq_true (by kernel_rfl)
theorem D160 : Dat Tryd.prog 160 true [.int .u8, .int .u8] := .struct Tryd.underlying160 (.cons (l := [.int .u8]) (m := [.int .u8]) D5 (by kernel_rfl) (.cons (l := [.int .u8]) (m := []) D5 (by kernel_rfl) .nil)) (by kernel_rfl) lt160
theorem lt174 : 174 < Tryd.prog.types.size := of_decide_eq_true (by kernel_rfl)
theorem D174 : Dat Tryd.prog 174 false [.int .u8] := .int Tryd.underlying174 lt174
theorem lt175 : 175 < Tryd.prog.types.size := of_decide_eq_true (by kernel_rfl)
theorem D175 : Dat Tryd.prog 175 false [.int .u8] := .int Tryd.underlying175 lt175
theorem lt177 : 177 < Tryd.prog.types.size := of_decide_eq_true (by kernel_rfl)
theorem D177 : Dat Tryd.prog 177 false [.int .i32] := .int Tryd.underlying177 lt177
theorem lt178 : 178 < Tryd.prog.types.size := of_decide_eq_true (by kernel_rfl)
theorem D178 : Dat Tryd.prog 178 false [.int .i32] := .int Tryd.underlying178 lt178

theorem dat_lt : ∀ t g l, Dat Tryd.prog t g l → t < Tryd.prog.types.size := fun _ _ _ h => h.lt
theorem laid_all : laidOutB Tryd.prog = true := by kernel_rfl
theorem rowed_all : mapsRowed Tryd.prog = true := by kernel_rfl
theorem slices_all : ((List.range Tryd.prog.types.size).all fun t => match Tryd.prog.underlying t with | some (.slice e) => decide (0 < Tryd.prog.cellsOf e) | _ => true) = true := by kernel_rfl
theorem own_knob : ownKnob Tryd.prog.godebug = none := by kernel_rfl

end Go.Proofs.YtolgjekokdimoaaDoor
end

section
namespace Go.Proofs.YtolgjekokdimoaaDoor
open Go.ChangeShapes Go.WideShapes Go.ChangeAt Go.RowKit
set_option linter.unusedVariables false
set_option maxRecDepth 100000
section
variable {H : Type} {enc : TypeId × Value → H} {P : Program} {W W' : World}

theorem laid_mem {name : String} {k : IntKind} {zs : List Int} {g t e n : Nat} (hg : P.globalNamed name = some g) (hty : (P.globals[g]?).map (·.type) = some t) (ht : P.underlying t = some (.array n e)) (he : P.underlying e = some (.int k)) (hce : P.cellsOf e = 1) (hct : P.cellsOf t = n) :
    ∀ {laid : List (String × DataW Unit)} {ps : List MemPlace}, DataW.LaidVars P W laid ps → (name, Lib.tabData k zs) ∈ laid →
      ∃ cs, W.var? P name = some cs ∧ cs.toList = (zs.map fun z => Value.int k z) ∧ ∀ x ∈ MemPlace.row ⟨g, 0, none⟩ cs.size, x ∈ ps
  | [], ps, h, hm => by simp at hm
  | (m, d) :: r, ps, h, hm => by
    obtain ⟨g', t', cs, fuel, p, q, hg', ht', hvar, hd, hr, rfl⟩ := h
    rcases List.mem_cons.1 hm with hm | hm
    · obtain ⟨rfl, rfl⟩ := Prod.mk.inj hm
      obtain rfl := Option.some.inj (hg.symm.trans hg')
      obtain rfl := Option.some.inj (hty.symm.trans ht')
      exact ⟨cs, hvar, Lib.cells_of_tab ht he hce hct hd, fun x hx => by simp [hx]⟩
    · obtain ⟨cs', q1, q2, q3⟩ := laid_mem hg hty ht he hce hct hr hm
      exact ⟨cs', q1, q2, fun x hx => by simp [q3 x hx]⟩

theorem lv_intsZ {k : IntKind} : ∀ {zs : List Int}, (∀ z ∈ zs, inR k z) → Lv W (flatT (.int k) zs.length) (flatP (zs.map (PV.int k))) (zs.map fun z => Value.int k z) []
  | [], _ => .nil
  | z :: zs, h => .int (h z (by simp)) (lv_intsZ (zs := zs) fun x hx => h x (by simp [hx]))

theorem gl_one {name : String} {k : IntKind} {z0 : Int} {zs : List Int} {g t e n : Nat} {laid : List (String × DataW Unit)} (h : laidMet P laid W) (hm : (name, Lib.tabData k (z0 :: zs)) ∈ laid) (hg : P.globalNamed name = some g) (hty : (P.globals[g]?).map (·.type) = some t) (ht : P.underlying t = some (.array n e)) (he : P.underlying e = some (.int k)) (hce : P.cellsOf e = 1) (hct : P.cellsOf t = n)
    (hr : ∀ z ∈ z0 :: zs, inR k z) :
    g ∉ ([] : List Nat) ∧ ∃ c t, W.heap[g]? = some (.cells c t (0, 0)) ∧ flatB (.int k) = true ∧ (∀ e ∈ (z0 :: zs).map (PV.int k), Shp (.int k) e) ∧ Lv W (flatT (.int k) ((z0 :: zs).map (PV.int k)).length) (flatP ((z0 :: zs).map (PV.int k))) c.toList [] := by
  obtain ⟨ps, hL, _, hz⟩ := h
  obtain ⟨cs, q1, q2, q3⟩ := laid_mem hg hty ht he hce hct hL hm
  have hpos : 0 < cs.size := by rw [← Array.length_toList, q2]; simp
  obtain ⟨⟨c, t', hc⟩, _⟩ := hz g 0 (q3 _ (by simp [MemPlace.row]; exact hpos))
  have e : c = cs := by
    unfold World.var? at q1
    rw [hg] at q1
    have q1 : (match W.heap[g]? with | some (.cells cs _ _) => some cs | _ => none) = some cs := q1
    rw [hc] at q1
    exact Option.some.inj q1
  subst e
  refine ⟨by simp, c, t', hc, rfl, fun e he => ?_, ?_⟩
  · obtain ⟨z, hz', rfl⟩ := List.mem_map.1 he
    intro qs h; cases h
  · rw [q2, List.length_map]; exact lv_intsZ hr

theorem lt_of_name {ns : List String} (hall : (ns.all fun n => match (P.globalNamed n).bind fun g => (P.globals[g]?).map (·.type) with | some t => decide (t < P.types.size) | none => true) = true) {n : String} {g t : Nat} (hn : n ∈ ns) (hg : P.globalNamed n = some g) (ht : (P.globals[g]?).map (·.type) = some t) : t < P.types.size := by
  have h := List.all_eq_true.1 hall n hn
  have e : ((P.globalNamed n).bind fun g => (P.globals[g]?).map (·.type)) = some t := by rw [hg]; exact ht
  rw [e] at h
  exact of_decide_eq_true h
theorem var_fr (h : Fr W [] W') {n : String} {cs : Array Value} (hv : W.var? P n = some cs) : W'.var? P n = some cs := by
  unfold World.var? at hv ⊢
  cases hg : P.globalNamed n with
  | none => rw [hg] at hv; cases hv
  | some g =>
    rw [hg] at hv
    show (match W'.heap[g]? with | some (.cells cs _ _) => some cs | _ => none) = _
    have hv : (match W.heap[g]? with | some (.cells cs _ _) => some cs | _ => none) = some cs := hv
    cases hb : W.heap[g]? with
    | none => rw [hb] at hv; cases hv
    | some o =>
      rw [h.block g (Array.getElem?_eq_some_iff.1 hb).1 (by simp)]
      exact hv

theorem weights_pre {y : Nat} : ∀ {ts us : List TypeId} {ds gs : List (DataW H)}, y ∈ DataW.weightsEach P ts ds → y ∈ DataW.weightsEach P (ts ++ us) (ds ++ gs)
  | [], us, ds, gs, h => by cases ds <;> simp [DataW.weightsEach] at h
  | t :: ts, us, [], gs, h => by simp [DataW.weightsEach] at h
  | t :: ts, us, d :: ds, gs, h => by
    simp only [List.cons_append, DataW.weightsEach, List.mem_append] at h ⊢
    exact h.imp id weights_pre

theorem trodVars_len {sp : Nat → Bool} : ∀ {ns : List String} {gs : List (DataW H)} {ps : List MemPlace}, DataW.TrodVars enc P W sp ns gs ps → gs.length = ns.length
  | [], [], _, _ => rfl
  | [], _ :: _, _, h => h.elim
  | _ :: _, [], _, h => h.elim
  | n :: ns, d :: gs, ps, ⟨g, t, cs, fuel, p, q, _, _, _, _, h, _⟩ => by simp [trodVars_len h]

theorem trodVars_fr (K : Kids P (· < P.types.size)) (hsl : ((List.range P.types.size).all fun t => match P.underlying t with | some (.slice e) => decide (0 < P.cellsOf e) | _ => true) = true) (h : Fr W [] W') :
    ∀ {ns : List String} {gs : List (DataW H)} {ps : List MemPlace}, (∀ n ∈ ns, ∀ g t, P.globalNamed n = some g → (P.globals[g]?).map (·.type) = some t → t < P.types.size) → DataW.TrodVars enc P W (fun _ => true) ns gs ps → (∀ x ∈ ps, x.block < W.heap.size) → DataW.TrodVars enc P W' (fun b => decide (b < W.heap.size)) ns gs ps
  | [], [], _, _, h0, _ => h0
  | [], _ :: _, _, _, h0, _ => h0.elim
  | _ :: _, [], _, _, h0, _ => h0.elim
  | n :: ns, d :: gs, ps, hn, ⟨g, t, cs, fuel, p, q, h1, h2, h3, h4, h5, e⟩, hl => by
    subst e
    refine ⟨g, t, cs, fuel, p, q, h1, h2, var_fr h h3, ?_, trodVars_fr K hsl h (fun m hm => hn m (by simp [hm])) h5 fun x hx => hl x (by simp [hx]), rfl⟩
    have h6 := DataW.trod_respare (spare' := fun b => decide (b < W.heap.size)) K (fun t e ht => slices_full_of P hsl t e ht) fuel t cs.toList _ (hn n (by simp) g t h1 h2) h4 (fun x hx => by simpa using hl x (by simp [hx]))
    exact DataW.trod_carry fuel t _ _ h6 fun x hx => sameAt_fr h (hl x (by simp [hx]))

/-- A law's contract is its row's, where the row lists package variables. -/
theorem law_postV {fn : Func} {f : FuncId} {s : ChangeSpec} {c : FSpec} {tb : Nat} {base : Nat} {args : Array Value} {ds gs : List (DataW H)} {before : List MemPlace} (hl : laidOutB P = true) (hmr : mapsRowed P = true)
    (hsl : ((List.range P.types.size).all fun t => match P.underlying t with | some (.slice e) => decide (0 < P.cellsOf e) | _ => true) = true)
    (hdt : ∀ t g l, Dat P t g l → t < P.types.size) (hm : Meets P f c) (hG : GlOk W []) (ha : ArgTys P fn.params.toList c.args) (hpar : ∀ t ∈ fn.params.toList, t < P.types.size) (hb : P.underlying tb = some .bool) (hres : fn.resultTypes = #[tb])
    (hv : ∀ n ∈ s.vars, ∀ g t, P.globalNamed n = some g → (P.globals[g]?).map (·.type) = some t → t < P.types.size)
    (hfn : ∀ H ds gs, ds.length = fn.params.size → gs.length = s.vars.length → (s.fn H (ds ++ gs)).results = [.lit (.bool true)] ∧ (s.fn H (ds ++ gs)).args = ds ∧ (s.fn H (ds ++ gs)).vars = gs)
    (hc : c.ret = [.bool] ∧ c.fresh = true ∧ (∀ ps, c.pre ps) ∧ ∀ ps, c.res ps = [.bool true]) (hrd : allRd c.args = true)
    (hval : ∀ (j : Nat) t v, fn.params[j]? = some t → args[j]? = some v → Value.okWide P W .any base t v)
    (hW : DataW.Whole enc P fn.params.toList s.vars false W args.toList ds gs before)
    (hwt : (DataW.weightsEach P (fn.params.toList ++ s.plain.varTypes P) (ds ++ gs)).all (· ≤ reachBytes) = true) :
    Calls P f args W fun e W' => ∃ v, e = .returned v ∧ s.post enc P fn false true false false W args v W' := by
  have hW' := hW
  have hlt := hW.lt
  obtain ⟨p, q, hA, hV, rfl, hfz, _⟩ := hW
  have hdl : ∀ {ts : List TypeId} {vs : List Value} {ds : List (DataW H)} {ps : List MemPlace}, DataW.TrodAll enc P W 0 (fun _ => true) true ts vs ds ps → ds.length = ts.length := by
    intro ts
    induction ts with
    | nil => intro vs ds ps h; cases vs <;> cases ds <;> simp [DataW.TrodAll] at h ⊢
    | cons t ts ih => intro vs ds ps h; cases vs <;> cases ds <;> simp [DataW.TrodAll] at h ⊢; obtain ⟨_, _, _, h2, _⟩ := h; exact ih h2
  have hlen := hdl hA
  have K := kids_rows hl hmr
  obtain ⟨qs, fs, hargs⟩ := args_lv K hdt ha (fun j t v hj hv' => hval j t v (by simpa using hj) (by simpa using hv')) hA (fun y hy => by simpa using List.all_eq_true.1 hwt y (weights_pre hy))
  obtain ⟨c1, c2, c3, c4⟩ := hc
  obtain ⟨r1, r2, r3⟩ := hfn H ds gs (by simpa using hlen) (trodVars_len hV)
  have hcall := hm W qs _ fs fs [] hargs (by simp) (by simp) (c3 qs) hG
  simp only [Array.toArray_toList] at hcall
  refine hcall.mono fun e W' he => ?_
  obtain ⟨rvs, rfl, hFr, hcase⟩ := he
  have hret : ∃ fr, RetVs W' c.ret (c.res qs) rvs fr := by
    rcases hcase with ⟨_, fr, mo, h, _⟩ | ⟨h, _⟩
    · exact ⟨fr, h⟩
    · rw [c2] at h; cases h
  obtain ⟨fr, hret⟩ := hret
  rw [c1, c4] at hret
  have hrv : rvs = [.bool true] := by
    cases hret with
    | cons h1 h2 =>
      cases h2
      obtain ⟨fs', h1, _⟩ := h1
      cases h1 with
      | bool h => cases h; rfl
  subst hrv
  have hsame : ∀ sp : Nat → Bool, (∀ x ∈ p, sp x.block = true) → DataW.TrodAll enc P W' 0 sp true fn.params.toList args.toList ds p := fun sp hsp =>
    trodAll_fr hFr (hA.respare (T := (· < P.types.size)) K (fun t e ht => slices_full_of P hsl t e ht) hpar hsp) (fun x hx => hlt x (by simp [hx]))
  refine ⟨_, rfl, ds, gs, p ++ q, [], p, q, hW', ?_, ?_, ?_, keptBut_fr hFr _, fun h => by cases h⟩
  · simp only [r1, hres]
    exact trodAll_cons_mk (shut_bool hb _) trodAll_mk0
  · simp only [r2]
    exact hsame _ fun x hx => by simpa using hlt x (by simp [hx])
  · simp only [r3]
    exact trodVars_fr K hsl hFr hv hV fun x hx => hlt x (by simp [hx])

end
end Go.Proofs.YtolgjekokdimoaaDoor
end

