/-
  Part 9 of the proof of FnExactNodeTake: a verification-condition generator over the program and the contracts of its functions, in the order of their use.
  Conditions: none.
-/
import Derived.Test.YtmjjdfhpnckacabM8
import Derived.OpenShut
import Derived.SizedLaws
import Derived.ReadAgain
import Derived.ProofKit
set_option linter.unusedVariables false
set_option linter.unusedSimpArgs false

section
namespace Go.Proofs.Ytmjjdfhpnckacab
set_option linter.unusedVariables false

def ptyOf (g : Bool) (l : List PTy) : PTy := if g then .agg l else l.headD .opq

mutual
/-- The types of data: their leaves. -/
inductive Dat (P : Program) : Nat → Bool → List PTy → Prop
  | int {t k} : P.underlying t = some (.int k) → t < P.types.size → Dat P t false [.int k]
  | bool {t} : P.underlying t = some .bool → t < P.types.size → Dat P t false [.bool]
  | str {t} : P.underlying t = some .string → t < P.types.size → Dat P t false [.str]
  | slice {t e g l} : P.underlying t = some (.slice e) → Dat P e g l → P.cellsOf e = l.length → 0 < l.length → 0 < P.bytesOf e → t < P.types.size → Dat P t false [.list (ptyOf g l)]
  | struct {t fs l} : P.underlying t = some (.struct fs) → Dats P (fs.toList.map (·.type)) l → P.cellsOf t = l.length → t < P.types.size → Dat P t true l
inductive Dats (P : Program) : List Nat → List PTy → Prop
  | nil : Dats P [] []
  | cons {t ts g l m} : Dat P t g l → P.cellsOf t = l.length → Dats P ts m → Dats P (t :: ts) (l ++ m)
end

section
variable {H : Type} {enc : TypeId × Value → H} {P : Program} {w : World} {base : Nat} {spare : Nat → Bool}

theorem Dat.lt {t : Nat} {g : Bool} {l : List PTy} (h : Dat P t g l) : t < P.types.size := by
  cases h <;> assumption

theorem dat_leaf {t : Nat} {l : List PTy} (h : Dat P t false l) : ∃ T, l = [T] ∧ ∀ ts, T ≠ .agg ts := by
  cases h <;> exact ⟨_, rfl, by simp⟩

theorem cells_get {base : Nat} {a : Addr} {n : Nat} {cs : List Value} (h : w.cells? base a n = some cs) : cs.length = n ∧ ∀ i, i < n → w.cell? (a.add i) = cs[i]? := by
  unfold World.cells? at h
  split at h
  · refine ⟨by simpa using mapM_some_length h, fun i hi => ?_⟩
    have := mapM_some_get h i i (by simp [hi])
    exact this
  · cases h

theorem lim_reach {n : Nat} (h : n ≤ reachBytes) : n ≤ LIM := by
  unfold reachBytes at h; unfold LIM; omega

/-- Elements, one after the other. -/
theorem elems_lv {g : Bool} {l : List PTy} {T : PTy} (hT : T = ptyOf g l) (hg : g = false → ∃ T, l = [T] ∧ ∀ ts, T ≠ .agg ts) : ∀ (css : List (List Value)), (∀ cs ∈ css, ∃ qs f, Lv w l qs cs f) →
    ∃ es f, es.length = css.length ∧ (∀ e ∈ es, Shp T e) ∧ Lv w (flatT T es.length) (flatP es) css.flatten f ∧ T.leaves = l
  | [], _ => ⟨[], [], rfl, by simp, by simpa [flatT, flatP] using Lv.nil, by
      subst hT
      cases g with
      | true => rfl
      | false => obtain ⟨T, rfl, h⟩ := hg rfl; cases T <;> first | rfl | exact absurd rfl (h _)⟩
  | cs :: css, h => by
    obtain ⟨es, f, e1, e2, e3, e4⟩ := elems_lv hT hg css fun x hx => h x (by simp [hx])
    obtain ⟨qs, f1, hq⟩ := h cs (by simp)
    have key : ∃ e, Shp T e ∧ e.leaves = qs := by
      subst hT
      cases g with
      | true => exact ⟨.agg qs, ⟨qs, rfl, hq.lens.1.symm⟩, rfl⟩
      | false =>
        obtain ⟨T, rfl, hn⟩ := hg rfl
        have hl := hq.lens.1
        match qs, hl with
        | [q], _ =>
          have hne := hq.leaves_of q (by simp)
          refine ⟨q, ?_, ?_⟩
          · show Shp T q
            cases T <;> first | exact hne | exact absurd rfl (hn _)
          · cases q <;> first | rfl | exact absurd rfl (hne _)
    obtain ⟨e, k1, k2⟩ := key
    refine ⟨e :: es, f1 ++ f, by simp [e1], ?_, ?_, e4⟩
    · intro x hx; rcases List.mem_cons.1 hx with rfl | hx
      · exact k1
      · exact e2 x hx
    · have q1 : flatT T (e :: es).length = T.leaves ++ flatT T es.length := by simp [flatT, List.replicate_succ]
      have q2 : flatP (e :: es) = e.leaves ++ flatP es := by simp [flatP]
      rw [q1, q2, e4, k2, List.flatten_cons]
      exact hq.append e3

theorem wf_inR {k : IntKind} {n : Int} (h : (Lit.int k n).wf = true) : inR k n := by
  unfold Lit.wf at h; unfold inR
  simpa only [Bool.and_eq_true, decide_eq_true_eq] using h

theorem row_take {c : Array Value} {ci : List Value} {o k : Nat} (h1 : ci.length = k) (h2 : ∀ j, j < k → c[o + j]? = ci[j]?) : (c.toList.drop o).take k = ci := by
  apply List.ext_getElem?
  intro j
  by_cases hj : j < k
  · rw [List.getElem?_take, if_pos hj, List.getElem?_drop, ← h2 j hj]; simp
  · rw [List.getElem?_take, if_neg hj, List.getElem?_eq_none (by omega)]

theorem rows_take {c : Array Value} {o k : Nat} : ∀ (css : List (List Value)) (i0 : Nat), (∀ i ci, css[i]? = some ci → ci.length = k ∧ ∀ j, j < k → c[o + (i0 + i) * k + j]? = ci[j]?) → (c.toList.drop (o + i0 * k)).take css.flatten.length = css.flatten
  | [], i0, _ => by simp
  | ci :: css, i0, h => by
    obtain ⟨h1, h2⟩ := h 0 ci (by simp)
    have ih := rows_take (c := c) (o := o) (k := k) css (i0 + 1) fun i cj hi => by
      have := h (i + 1) cj (by simpa using hi)
      rw [show i0 + (i + 1) = i0 + 1 + i by omega] at this
      exact this
    simp only [List.flatten_cons, List.length_append]
    rw [List.take_add, List.drop_drop, h1]
    congr 1
    · exact row_take h1 fun j hj => by simpa using h2 j hj
    · rw [show o + i0 * k + k = o + (i0 + 1) * k by rw [Nat.add_mul]; omega]
      exact ih

theorem weightsAll_mem {e : TypeId} : ∀ {ds : List (DataW H)} {d : DataW H}, d ∈ ds → ∀ y ∈ d.weights P e, y ∈ DataW.weightsAll P e ds
  | x :: ds, d, hd, y, hy => by
    simp only [DataW.weightsAll, List.mem_append]
    rcases List.mem_cons.1 hd with rfl | hd
    · exact .inl hy
    · exact .inr (weightsAll_mem hd y hy)

theorem dats_lv {n : Nat} {cs : List Value} (ih : ∀ t g l cs x, Dat P t g l → DataW.trod enc P w base spare true n t cs = some x → (∀ y ∈ x.1.weights P t, y ≤ reachBytes) → ∃ qs f, Lv w l qs cs f) : ∀ (fs : List Field) (l : List PTy) (xs : List (DataW H × List MemPlace)) (o : Nat), Dats P (fs.map Field.type) l →
  (∀ (j : Nat) (f : Field), fs[j]? = some f → f.offset = o + ((fs.take j).map fun (f : Field) => P.cellsOf f.type).sum) → (∀ (j : Nat) (f : Field), fs[j]? = some f → DataW.trod enc P w base spare true n f.type ((cs.drop f.offset).take (P.cellsOf f.type)) = xs[j]?) → xs.length = fs.length →
    (∀ y ∈ DataW.weightsEach P (fs.map Field.type) (xs.map (·.1)), y ≤ reachBytes) → ∃ qs f, Lv w l qs ((cs.drop o).take l.length) f
  | [], l, xs, o, hd, hof, hx, hlen, hw => by cases hd; exact ⟨[], [], by simpa using Lv.nil⟩
  | f :: fs, l, xs, o, hd, hof, hx, hlen, hw => by
    cases xs with
    | nil => simp at hlen
    | cons x xs =>
      simp only [List.map_cons] at hd hw
      cases hd with
      | @cons t ts g l1 m h1 h2 h3 =>
        have e0 := hof 0 f (by simp)
        simp only [List.take_zero, List.map_nil, List.sum_nil, Nat.add_zero] at e0
        have x0 := hx 0 f (by simp)
        simp only [List.getElem?_cons_zero, e0, h2] at x0
        simp only [DataW.weightsEach, List.mem_append] at hw
        obtain ⟨q1, f1, hq1⟩ := ih _ _ _ _ _ h1 x0 (fun y hy => hw y (.inl hy))
        obtain ⟨q2, f2, hq2⟩ := dats_lv ih fs m xs (o + l1.length) h3 (fun j f' hj => by
          have := hof (j + 1) f' (by simpa using hj)
          simp only [List.take_succ_cons, List.map_cons, List.sum_cons, h2] at this
          omega) (fun j f' hj => by simpa using hx (j + 1) f' (by simpa using hj)) (by simpa using hlen) (fun y hy => hw y (.inr hy))
        refine ⟨q1 ++ q2, f1 ++ f2, ?_⟩
        rw [List.length_append, List.take_add, List.drop_drop]
        exact hq1.append hq2

/-- What is read as data lies in memory as such. -/
theorem trod_lv (K : Kids P (· < P.types.size)) (hdt : ∀ t g l, Dat P t g l → t < P.types.size) : ∀ (n : Nat) (t : Nat) (g : Bool) (l : List PTy) (cs : List Value) (x : DataW H × List MemPlace), Dat P t g l → DataW.trod enc P w base spare true n t cs = some x → (∀ y ∈ x.1.weights P t, y ≤ reachBytes) → ∃ qs f, Lv w l qs cs f := by
  intro n
  induction n with
  | zero => intro t g l cs x _ h; simp [DataW.trod] at h
  | succ n ih =>
    intro t g l cs x hd h hw
    have hd0 := hd
    cases hd with
    | int ht _ =>
      obtain ⟨m, rfl, rfl, hwf⟩ := DataW.trod_int ht h
      exact ⟨[.int _ m], [], .int (wf_inR hwf) .nil⟩
    | bool ht _ =>
      obtain ⟨b, rfl, rfl⟩ := DataW.trod_bool ht h
      exact ⟨[.bool b], [], .bool .nil⟩
    | str ht _ =>
      obtain ⟨b, rfl, rfl, hl⟩ := DataW.trod_string ht h
      have := hw b.data.toList.length (by simp [DataW.weights])
      refine ⟨[.str b.data.toList], [], ?_⟩
      have hL := Lv.str (w := w) (lim_reach this) (Lv.nil (w := w))
      simpa using hL
    | @slice _ e g' l' ht he hc hpos hby _ =>
      rcases DataW.trod_slice ht h with ⟨rfl, rfl⟩ | ⟨a, len, cap, elems, rest, m, hm, rfl, rfl, hb, hle, hcap, hel, hget, _⟩
      · exact ⟨[.list []], [], .empty .nil⟩
      · have hmn : m = n := by omega
        subst hmn
        simp only [DataW.weights, ht, List.length_map, List.mem_cons, List.mem_append] at hw
        have hlim : len ≤ LIM := by
          have h1 := lim_reach (hw _ (.inl rfl))
          have h2 : elems.length * 1 ≤ (elems.length + rest.length) * P.bytesOf e := Nat.mul_le_mul (by omega) hby
          omega
        cases len with
        | zero => exact ⟨[.list []], [], .empty .nil⟩
        | succ len =>
          have hcell : ∀ i, i < len + 1 → ∃ ci y, w.cells? base (a.add (i * l'.length)) l'.length = some ci ∧ elems[i]? = some y ∧ ∃ qs f, Lv w l' qs ci f := by
            intro i hi
            have h1 := hget i hi
            have hy : elems[i]? = some elems[i] := by simp [hel, hi]
            rw [hy, hc] at h1
            cases hci : w.cells? base (a.add (i * l'.length)) l'.length with
            | none => rw [hci] at h1; cases h1
            | some ci =>
              rw [hci] at h1
              exact ⟨ci, _, rfl, hy, ih e g' l' ci _ he h1 fun y hy => hw y (.inr (.inl (weightsAll_mem (List.mem_map.2 ⟨_, List.getElem_mem (by omega), rfl⟩) y hy)))⟩
          let ci : Nat → List Value := fun i => (w.cells? base (a.add (i * l'.length)) l'.length).getD []
          have hci : ∀ i, i < len + 1 → w.cells? base (a.add (i * l'.length)) l'.length = some (ci i) ∧ ∃ qs f, Lv w l' qs (ci i) f := by
            intro i hi
            obtain ⟨c, y, h1, _, h2⟩ := hcell i hi
            have : ci i = c := by simp [ci, h1]
            rw [this]; exact ⟨h1, h2⟩
          have hT : ∃ T, T = ptyOf g' l' := ⟨_, rfl⟩
          obtain ⟨T, hT⟩ := hT
          obtain ⟨es, f, e1, e2, e3, e4⟩ := elems_lv (w := w) hT (fun hg => by subst hg; exact dat_leaf he) ((List.range (len + 1)).map ci) fun cs hcs => by
            obtain ⟨i, hi, rfl⟩ := List.mem_map.1 hcs
            exact (hci i (by simpa using hi)).2
          simp only [List.length_map, List.length_range] at e1
          obtain ⟨b, o, sp⟩ := a
          have h00 := (cells_get (hci 0 (by omega)).1)
          have h01 := h00.2 0 hpos
          have hne : ∃ u, (ci 0)[0]? = some u := ⟨(ci 0)[0]'(by omega), by simp [h00.1, hpos]⟩
          obtain ⟨u, hu⟩ := hne
          rw [hu] at h01
          have ha0 : (Addr.add ⟨b, o, sp⟩ (0 * l'.length)).add 0 = ⟨b, o, sp⟩ := by simp [Addr.add]
          rw [ha0] at h01
          simp only [World.cell?] at h01
          have hblk : ∃ c t' fr, w.heap[b]? = some (.cells c t' fr) ∧ sp = none := by
            split at h01
            · rename_i c t' fr hc'
              refine ⟨c, t', fr, hc', ?_⟩
              cases sp with
              | none => rfl
              | some _ => simp at h01
            · cases h01
          obtain ⟨c, t', fr, hblk, rfl⟩ := hblk
          refine ⟨[.list es], b :: f ++ [], ?_⟩
          subst hT
          have := Lv.list (cap := cap) (o := o) hblk e2 ⟨by omega, by omega⟩ e3 ?_ Lv.nil
          · rw [e1] at this
            exact this
          · have := rows_take (c := c) (o := o) (k := l'.length) ((List.range (len + 1)).map ci) 0 fun i cj hi => by
              simp only [List.getElem?_map, List.getElem?_range, Option.map_eq_some_iff] at hi
              obtain ⟨j, hj, rfl⟩ := hi
              have hij : i < len + 1 ∧ i = j := by
                by_cases hlt : i < len + 1
                · rw [List.getElem?_range hlt] at hj; cases hj; exact ⟨hlt, rfl⟩
                · rw [List.getElem?_eq_none (by simp; omega)] at hj; cases hj
              obtain ⟨hlt, rfl⟩ := hij
              obtain ⟨k1, k2⟩ := cells_get (hci i hlt).1
              refine ⟨k1, fun j hj => ?_⟩
              have := k2 j hj
              rw [addr_add, addr_add] at this
              simp only [World.cell?, hblk] at this
              rw [← this]
              simp [Nat.add_assoc]
            simpa using this
    | @struct _ fs l ht hds hc _ =>
      obtain ⟨xs, m, hm, rfl, hlen, hxl, hget⟩ := DataW.trod_struct ht h
      have hmn : m = n := by omega
      subst hmn
      obtain ⟨_, _, hoff⟩ := K.struct (hdt _ _ _ hd0) ht
      simp only [DataW.weights, ht] at hw
      obtain ⟨qs, f, hq⟩ := dats_lv (cs := cs) ih fs.toList l xs 0 hds (fun j f hj => by simpa using hoff j f hj) (fun j f hj => hget j f (by simpa using hj)) (by simpa using hxl) hw
      refine ⟨qs, f, ?_⟩
      rw [List.drop_zero, List.take_of_length_le (by omega)] at hq
      exact hq

end
end Go.Proofs.Ytmjjdfhpnckacab
end

section
namespace Go.Proofs.Ytmjjdfhpnckacab
open Go.ChangeShapes Go.WideShapes Go.ChangeAt Go.RowKit
set_option linter.unusedVariables false

/-- The parameters of a law. -/
inductive ArgTys (P : Program) : List Nat → List (Md × PTy) → Prop
  | nil : ArgTys P [] []
  | cons {t ts g l ats} : Dat P t g l → ArgTys P ts ats → ArgTys P (t :: ts) ((.rd, ptyOf g l) :: ats)

section
variable {H : Type} {enc : TypeId × Value → H} {P : Program} {W W' : World}

theorem okWide_agg {base : Nat} {t : Nat} {l : List PTy} {v : Value} (hd : Dat P t true l) (h : Value.okWide P W .any base t v) : ∃ cs, v = .agg cs := by
  cases hd with
  | struct ht _ _ _ =>
    unfold Value.okWide at h
    rw [ht] at h
    obtain ⟨cs, h, _⟩ := h
    exact ⟨cs, h⟩

theorem okWide_leaf {base : Nat} {t : Nat} {l : List PTy} {v : Value} (hd : Dat P t false l) (h : Value.okWide P W .any base t v) : v.cells.toList = [v] := by
  cases hd with
  | int ht _ => unfold Value.okWide Cell.okWide Cell.ok at h; rw [ht] at h; cases v <;> first | rfl | (simp at h)
  | bool ht _ => unfold Value.okWide Cell.okWide Cell.ok at h; rw [ht] at h; cases v <;> first | rfl | (simp at h)
  | str ht _ => unfold Value.okWide Cell.okWide Cell.ok at h; rw [ht] at h; cases v <;> first | rfl | (simp at h)
  | slice ht _ _ _ _ _ => unfold Value.okWide Cell.okWide Cell.ok at h; rw [ht] at h; cases v <;> first | rfl | (simp at h)

theorem arg_lv (K : Kids P (· < P.types.size)) (hdt : ∀ t g l, Dat P t g l → t < P.types.size) {base : Nat} {t : Nat} {g : Bool} {l : List PTy} {v : Value} {d : DataW H} {p : List MemPlace} (hd : Dat P t g l) (hk : Value.okWide P W .any base t v)
    (h : DataW.Trod enc P W 0 (fun _ => true) true t v d p) (hw : ∀ y ∈ d.weights P t, y ≤ reachBytes) : ∃ q f, ArgV W (ptyOf g l) q v f f := by
  obtain ⟨n, h⟩ := h
  obtain ⟨qs, f, hL⟩ := trod_lv K hdt n t g l _ (d, p) hd h hw
  cases g with
  | true =>
    obtain ⟨cs, rfl⟩ := okWide_agg hd hk
    exact ⟨.agg qs, f, qs, cs.toList, rfl, by simp, hL, rfl⟩
  | false =>
    rw [okWide_leaf hd hk] at hL
    obtain ⟨T, rfl, hn⟩ := dat_leaf hd
    have hl := hL.lens.1
    match qs, hl with
    | [q], _ =>
      refine ⟨q, f, ?_⟩
      show ArgV W T q v f f
      cases T with
      | agg ts => exact absurd rfl (hn ts)
      | box ts => cases hL
      | abx t => cases hL
      | fn g ts => cases hL
      | opq => cases hL
      | int k => exact ⟨hL, rfl⟩
      | bool => exact ⟨hL, rfl⟩
      | str => exact ⟨hL, rfl⟩
      | list t => exact ⟨hL, rfl⟩

theorem args_lv (K : Kids P (· < P.types.size)) (hdt : ∀ t g l, Dat P t g l → t < P.types.size) {base : Nat} : ∀ {ts : List Nat} {ats : List (Md × PTy)} {vs : List Value} {ds : List (DataW H)} {ps : List MemPlace}, ArgTys P ts ats →
    (∀ (j : Nat) t v, ts[j]? = some t → vs[j]? = some v → Value.okWide P W .any base t v) → DataW.TrodAll enc P W 0 (fun _ => true) true ts vs ds ps → (∀ y ∈ DataW.weightsEach P ts ds, y ≤ reachBytes) →
    ∃ qs fs, ArgsV W ats qs vs fs fs []
  | [], ats, vs, ds, ps, ha, hk, h, hw => by
    cases ha
    cases vs <;> cases ds <;> simp [DataW.TrodAll] at h
    exact ⟨[], [], .nil⟩
  | t :: ts, ats, [], ds, ps, ha, hk, h, hw => by cases ds <;> simp [DataW.TrodAll] at h
  | t :: ts, ats, v :: vs, [], ps, ha, hk, h, hw => by simp [DataW.TrodAll] at h
  | t :: ts, ats, v :: vs, d :: ds, ps, ha, hk, h, hw => by
    cases ha with
    | @cons _ _ g l ats' hd ha =>
      obtain ⟨p, q, h1, h2, rfl⟩ := h
      simp only [DataW.weightsEach, List.mem_append] at hw
      obtain ⟨q1, f1, k1⟩ := arg_lv K hdt hd (hk 0 t v (by simp) (by simp)) h1 (fun y hy => hw y (.inl hy))
      obtain ⟨qs, fs, k2⟩ := args_lv K hdt ha (fun j t' v' hj hv => hk (j + 1) t' v' (by simpa using hj) (by simpa using hv)) h2 (fun y hy => hw y (.inr hy))
      exact ⟨q1 :: qs, f1 ++ fs, .rd k1 k2⟩

theorem sameAt_fr (h : Fr W [] W') {p : MemPlace} (hp : p.block < W.heap.size) : W.sameAt W' p := by
  have hb := h.block p.block hp (by simp)
  cases p with
  | cell b o => simp only [World.sameAt, World.cell?]; rw [show W'.heap[b]? = W.heap[b]? from hb]
  | map b => exact hb

theorem trodAll_fr (h : Fr W [] W') {sp : Nat → Bool} : ∀ {ts : List TypeId} {vs : List Value} {ds : List (DataW H)} {ps : List MemPlace}, DataW.TrodAll enc P W 0 sp true ts vs ds ps → (∀ p ∈ ps, p.block < W.heap.size) → DataW.TrodAll enc P W' 0 sp true ts vs ds ps
  | [], [], [], _, h0, _ => h0
  | [], [], _ :: _, _, h0, _ => h0.elim
  | [], _ :: _, _, _, h0, _ => h0.elim
  | _ :: _, [], _, _, h0, _ => h0.elim
  | _ :: _, _ :: _, [], _, h0, _ => h0.elim
  | t :: ts, v :: vs, d :: ds, _, ⟨p, q, ⟨n, h1⟩, h2, e⟩, hl => by
    subst e
    exact ⟨p, q, ⟨n, DataW.trod_carry n t _ _ h1 fun x hx => sameAt_fr h (hl x (List.mem_append_left _ hx))⟩, trodAll_fr h h2 fun x hx => hl x (List.mem_append_right _ hx), rfl⟩

theorem keptBut_fr (h : Fr W [] W') (may : MemPlace → Prop) : W.keptBut W' may := by
  refine ⟨h.os, h.output, fun i hi => ?_⟩
  rw [h.block i hi (by simp)]
  have := (World.keptBut_refl W may).2.2 i hi
  exact this

/-- A law's contract is its row's. -/
theorem law_post {fn : Func} {f : FuncId} {s : ChangeSpec} {c : FSpec} {tb : Nat} {base : Nat} {args : Array Value} {ds gs : List (DataW H)} {before : List MemPlace} (hl : laidOutB P = true) (hmr : mapsRowed P = true)
    (hsl : ((List.range P.types.size).all fun t => match P.underlying t with | some (.slice e) => decide (0 < P.cellsOf e) | _ => true) = true)
    (hdt : ∀ t g l, Dat P t g l → t < P.types.size) (hm : Meets P f c) (ha : ArgTys P fn.params.toList c.args) (hpar : ∀ t ∈ fn.params.toList, t < P.types.size) (hb : P.underlying tb = some .bool) (hres : fn.resultTypes = #[tb])
    (hv : s.vars = []) (hfn : ∀ H ds, ds.length = fn.params.size → (s.fn H ds).results = [.lit (.bool true)] ∧ (s.fn H ds).args = ds ∧ (s.fn H ds).vars = [])
    (hc : c.ret = [.bool] ∧ c.fresh = true ∧ (∀ ps, c.pre ps) ∧ ∀ ps, c.res ps = [.bool true]) (hrd : allRd c.args = true)
    (hval : ∀ (j : Nat) t v, fn.params[j]? = some t → args[j]? = some v → Value.okWide P W .any base t v)
    (hW : DataW.Whole enc P fn.params.toList s.vars false W args.toList ds gs before)
    (hwt : (DataW.weightsEach P (fn.params.toList ++ s.plain.varTypes P) (ds ++ gs)).all (· ≤ reachBytes) = true) :
    Calls P f args W fun e W' => ∃ v, e = .returned v ∧ s.post enc P fn false true false false W args v W' := by
  have hW' := hW
  have hlt := hW.lt
  obtain ⟨p, q, hA, hV, rfl, hfz, _⟩ := hW
  rw [hv] at hV
  have hg : gs = [] ∧ q = [] := by
    cases gs with
    | nil => exact ⟨rfl, hV⟩
    | cons _ _ => exact hV.elim
  obtain ⟨rfl, rfl⟩ := hg
  have hdl : ∀ {ts : List TypeId} {vs : List Value} {ds : List (DataW H)} {ps : List MemPlace}, DataW.TrodAll enc P W 0 (fun _ => true) true ts vs ds ps → ds.length = ts.length := by
    intro ts
    induction ts with
    | nil => intro vs ds ps h; cases vs <;> cases ds <;> simp [DataW.TrodAll] at h ⊢
    | cons t ts ih => intro vs ds ps h; cases vs <;> cases ds <;> simp [DataW.TrodAll] at h ⊢; obtain ⟨_, _, _, h2, _⟩ := h; exact ih h2
  have hlen := hdl hA
  have hvt : s.plain.varTypes P = [] := by simp [ChangeSpec.plain, DataSpec.varTypes, hv]
  simp only [List.append_nil, hvt] at hwt hW'
  have K := kids_rows hl hmr
  obtain ⟨qs, fs, hargs⟩ := args_lv K hdt ha (fun j t v hj hv' => hval j t v (by simpa using hj) (by simpa using hv')) hA (fun y hy => by simpa using List.all_eq_true.1 hwt y hy)
  obtain ⟨c1, c2, c3, c4⟩ := hc
  obtain ⟨r1, r2, r3⟩ := hfn H ds (by simpa using hlen)
  have hcall := hm W qs _ fs fs [] hargs (by simp) (by simp) (c3 qs)
  simp only [Array.toArray_toList] at hcall
  refine hcall.mono fun e W' he => ?_
  obtain ⟨rvs, rfl, hFr, hcase⟩ := he
  have hret : ∃ fr, RetVs W' c.ret (c.res qs) rvs fr := by
    rcases hcase with ⟨_, fr, mo, h, _⟩ | ⟨h, _⟩
    · exact ⟨fr, h⟩
    · rw [c2] at h; cases h
  obtain ⟨fr, hret⟩ := hret
  rw [c1, c4] at hret
  have hrv : rvs = [.bool true] := by
    cases hret with
    | cons h1 h2 =>
      cases h2
      obtain ⟨fs', h1, _⟩ := h1
      cases h1 with
      | bool h => cases h; rfl
  subst hrv
  have hsame : ∀ sp : Nat → Bool, (∀ x ∈ p, sp x.block = true) → DataW.TrodAll enc P W' 0 sp true fn.params.toList args.toList ds p := fun sp hsp =>
    trodAll_fr hFr (hA.respare (T := (· < P.types.size)) K (fun t e ht => slices_full_of P hsl t e ht) hpar hsp) (fun x hx => hlt x (by simp [hx]))
  refine ⟨_, rfl, ds, [], p, [], p, [], by simpa using hW', ?_, ?_, ?_, keptBut_fr hFr _, fun h => by cases h⟩
  · simp only [List.append_nil, r1, hres]
    exact trodAll_cons_mk (shut_bool hb _) trodAll_mk0
  · simp only [List.append_nil, r2]
    exact hsame _ fun x hx => by simpa using hlt x (by simp [hx])
  · simp only [List.append_nil, r3, hv]; rfl

end
end Go.Proofs.Ytmjjdfhpnckacab
end

section
namespace Go.Proofs.Ytmjjdfhpnckacab
set_option maxRecDepth 100000

theorem lt2 : 2 < Try.prog.types.size := of_decide_eq_true (by kernel_rfl)
theorem D2 : Dat Try.prog 2 false [.int .i64] := .int Try.underlying2 lt2
theorem lt3 : 3 < Try.prog.types.size := of_decide_eq_true (by kernel_rfl)
theorem D3 : Dat Try.prog 3 false [.int .i64] := .int Try.underlying3 lt3
theorem lt4 : 4 < Try.prog.types.size := of_decide_eq_true (by kernel_rfl)
theorem D4 : Dat Try.prog 4 false [.bool] := .bool Try.underlying4 lt4
theorem lt5 : 5 < Try.prog.types.size := of_decide_eq_true (by kernel_rfl)
theorem D5 : Dat Try.prog 5 false [.int .u8] := .int Try.underlying5 lt5
theorem lt6 : 6 < Try.prog.types.size := of_decide_eq_true (by kernel_rfl)
theorem D6 : Dat Try.prog 6 false [.int .u8] := .int Try.underlying6 lt6
theorem lt7 : 7 < Try.prog.types.size := of_decide_eq_true (by kernel_rfl)
theorem D7 : Dat Try.prog 7 true [.int .i64, .int .i64, .bool, .int .u8] := .struct Try.underlying7 (.cons (l := [.int .i64]) (m := [.int .i64, .bool, .int .u8]) D2 (by kernel_rfl) (.cons (l := [.int .i64]) (m := [.bool, .int .u8]) D3 (by kernel_rfl) (.cons (l := [.bool]) (m := [.int .u8]) D4 (by kernel_rfl) (.cons (l := [.int .u8]) (m := []) D6 (by kernel_rfl) .nil)))) (by kernel_rfl) lt7
theorem lt8 : 8 < Try.prog.types.size := of_decide_eq_true (by kernel_rfl)
theorem D8 : Dat Try.prog 8 true [.int .i64, .int .i64, .bool, .int .u8] := .struct Try.underlying8 (.cons (l := [.int .i64]) (m := [.int .i64, .bool, .int .u8]) D2 (by kernel_rfl) (.cons (l := [.int .i64]) (m := [.bool, .int .u8]) D3 (by kernel_rfl) (.cons (l := [.bool]) (m := [.int .u8]) D4 (by kernel_rfl) (.cons (l := [.int .u8]) (m := []) D6 (by kernel_rfl) .nil)))) (by kernel_rfl) lt8
theorem lt9 : 9 < Try.prog.types.size := of_decide_eq_true (by kernel_rfl)
theorem D9 : Dat Try.prog 9 false [.str] := .str Try.underlying9 lt9
theorem lt10 : 10 < Try.prog.types.size := of_decide_eq_true (by kernel_rfl)
theorem D10 : Dat Try.prog 10 false [.str] := .str Try.underlying10 lt10
theorem lt11 : 11 < Try.prog.types.size := of_decide_eq_true (by kernel_rfl)
theorem D11 : Dat Try.prog 11 false [.str] := .str Try.underlying11 lt11
theorem lt12 : 12 < Try.prog.types.size := of_decide_eq_true (by kernel_rfl)
theorem D12 : Dat Try.prog 12 false [.int .u64] := .int Try.underlying12 lt12
theorem lt13 : 13 < Try.prog.types.size := of_decide_eq_true (by kernel_rfl)
theorem D13 : Dat Try.prog 13 true [.str, .int .u64] := .struct Try.underlying13 (.cons (l := [.str]) (m := [.int .u64]) D9 (by kernel_rfl) (.cons (l := [.int .u64]) (m := []) D12 (by kernel_rfl) .nil)) (by kernel_rfl) lt13
theorem lt14 : 14 < Try.prog.types.size := of_decide_eq_true (by kernel_rfl)
theorem D14 : Dat Try.prog 14 true [.str, .int .u64] := .struct Try.underlying14 (.cons (l := [.str]) (m := [.int .u64]) D9 (by kernel_rfl) (.cons (l := [.int .u64]) (m := []) D12 (by kernel_rfl) .nil)) (by kernel_rfl) lt14
theorem lt21 : 21 < Try.prog.types.size := of_decide_eq_true (by kernel_rfl)
theorem D21 : Dat Try.prog 21 false [.int .i32] := .int Try.underlying21 lt21
theorem lt22 : 22 < Try.prog.types.size := of_decide_eq_true (by kernel_rfl)
theorem D22 : Dat Try.prog 22 false [.list (.int .u8)] := .slice (e := 5) (g := false) (l := [.int .u8]) Try.underlying22 D5 (by kernel_rfl) (by decide) (of_decide_eq_true (by kernel_rfl)) lt22
theorem lt105 : 105 < Try.prog.types.size := of_decide_eq_true (by kernel_rfl)
theorem D105 : Dat Try.prog 105 true [.int .i64, .str] := .struct Try.underlying105 (.cons (l := [.int .i64]) (m := [.str]) D3 (by kernel_rfl) (.cons (l := [.str]) (m := []) D9 (by kernel_rfl) .nil)) (by kernel_rfl) lt105
theorem lt23 : 23 < Try.prog.types.size := of_decide_eq_true (by kernel_rfl)
theorem D23 : Dat Try.prog 23 false [.list (.agg [.int .i64, .str])] := .slice (e := 105) (g := true) (l := [.int .i64, .str]) Try.underlying23 D105 (by kernel_rfl) (by decide) (of_decide_eq_true (by kernel_rfl)) lt23
theorem lt24 : 24 < Try.prog.types.size := of_decide_eq_true (by kernel_rfl)
theorem D24 : Dat Try.prog 24 true [.int .i64, .int .i64, .bool, .int .i64, .int .i64, .list (.agg [.int .i64, .str])] := .struct Try.underlying24 (.cons (l := [.int .i64]) (m := [.int .i64, .bool, .int .i64, .int .i64, .list (.agg [.int .i64, .str])]) D3 (by kernel_rfl) (.cons (l := [.int .i64]) (m := [.bool, .int .i64, .int .i64, .list (.agg [.int .i64, .str])]) D3 (by kernel_rfl) (.cons (l := [.bool]) (m := [.int .i64, .int .i64, .list (.agg [.int .i64, .str])]) D4 (by kernel_rfl) (.cons (l := [.int .i64]) (m := [.int .i64, .list (.agg [.int .i64, .str])]) D3 (by kernel_rfl) (.cons (l := [.int .i64]) (m := [.list (.agg [.int .i64, .str])]) D3 (by kernel_rfl) (.cons (l := [.list (.agg [.int .i64, .str])]) (m := []) D23 (by kernel_rfl) .nil)))))) (by kernel_rfl) lt24
theorem lt25 : 25 < Try.prog.types.size := of_decide_eq_true (by kernel_rfl)
theorem D25 : Dat Try.prog 25 true [.int .i64, .int .i64, .bool, .int .i64, .int .i64, .list (.agg [.int .i64, .str])] := .struct Try.underlying25 (.cons (l := [.int .i64]) (m := [.int .i64, .bool, .int .i64, .int .i64, .list (.agg [.int .i64, .str])]) D3 (by kernel_rfl) (.cons (l := [.int .i64]) (m := [.bool, .int .i64, .int .i64, .list (.agg [.int .i64, .str])]) D3 (by kernel_rfl) (.cons (l := [.bool]) (m := [.int .i64, .int .i64, .list (.agg [.int .i64, .str])]) D4 (by kernel_rfl) (.cons (l := [.int .i64]) (m := [.int .i64, .list (.agg [.int .i64, .str])]) D3 (by kernel_rfl) (.cons (l := [.int .i64]) (m := [.list (.agg [.int .i64, .str])]) D3 (by kernel_rfl) (.cons (l := [.list (.agg [.int .i64, .str])]) (m := []) D23 (by kernel_rfl) .nil)))))) (by kernel_rfl) lt25
theorem lt119 : 119 < Try.prog.types.size := of_decide_eq_true (by kernel_rfl)
theorem D119 : Dat Try.prog 119 true [.int .i64, .str] := .struct Try.underlying119 (.cons (l := [.int .i64]) (m := [.str]) D3 (by kernel_rfl) (.cons (l := [.str]) (m := []) D9 (by kernel_rfl) .nil)) (by kernel_rfl) lt119
theorem lt34 : 34 < Try.prog.types.size := of_decide_eq_true (by kernel_rfl)
theorem D34 : Dat Try.prog 34 false [.list (.agg [.int .i64, .str])] := .slice (e := 119) (g := true) (l := [.int .i64, .str]) Try.underlying34 D119 (by kernel_rfl) (by decide) (of_decide_eq_true (by kernel_rfl)) lt34
theorem lt35 : 35 < Try.prog.types.size := of_decide_eq_true (by kernel_rfl)
theorem D35 : Dat Try.prog 35 false [.list (.int .i64)] := .slice (e := 3) (g := false) (l := [.int .i64]) Try.underlying35 D3 (by kernel_rfl) (by decide) (of_decide_eq_true (by kernel_rfl)) lt35
theorem lt36 : 36 < Try.prog.types.size := of_decide_eq_true (by kernel_rfl)
theorem D36 : Dat Try.prog 36 true [.int .i64, .int .i64, .int .i64, .int .i64, .int .i64, .bool, .list (.agg [.int .i64, .str]), .int .i64, .int .i64, .int .i64, .list (.int .i64), .list (.int .i64), .list (.int .i64)] := .struct Try.underlying36 (.cons (l := [.int .i64]) (m := [.int .i64, .int .i64, .int .i64, .int .i64, .bool, .list (.agg [.int .i64, .str]), .int .i64, .int .i64, .int .i64, .list (.int .i64), .list (.int .i64), .list (.int .i64)]) D3 (by kernel_rfl) (.cons (l := [.int .i64]) (m := [.int .i64, .int .i64, .int .i64, .bool, .list (.agg [.int .i64, .str]), .int .i64, .int .i64, .int .i64, .list (.int .i64), .list (.int .i64), .list (.int .i64)]) D3 (by kernel_rfl) (.cons (l := [.int .i64]) (m := [.int .i64, .int .i64, .bool, .list (.agg [.int .i64, .str]), .int .i64, .int .i64, .int .i64, .list (.int .i64), .list (.int .i64), .list (.int .i64)]) D3 (by kernel_rfl) (.cons (l := [.int .i64]) (m := [.int .i64, .bool, .list (.agg [.int .i64, .str]), .int .i64, .int .i64, .int .i64, .list (.int .i64), .list (.int .i64), .list (.int .i64)]) D3 (by kernel_rfl) (.cons (l := [.int .i64]) (m := [.bool, .list (.agg [.int .i64, .str]), .int .i64, .int .i64, .int .i64, .list (.int .i64), .list (.int .i64), .list (.int .i64)]) D3 (by kernel_rfl) (.cons (l := [.bool]) (m := [.list (.agg [.int .i64, .str]), .int .i64, .int .i64, .int .i64, .list (.int .i64), .list (.int .i64), .list (.int .i64)]) D4 (by kernel_rfl) (.cons (l := [.list (.agg [.int .i64, .str])]) (m := [.int .i64, .int .i64, .int .i64, .list (.int .i64), .list (.int .i64), .list (.int .i64)]) D34 (by kernel_rfl) (.cons (l := [.int .i64]) (m := [.int .i64, .int .i64, .list (.int .i64), .list (.int .i64), .list (.int .i64)]) D3 (by kernel_rfl) (.cons (l := [.int .i64]) (m := [.int .i64, .list (.int .i64), .list (.int .i64), .list (.int .i64)]) D3 (by kernel_rfl) (.cons (l := [.int .i64]) (m := [.list (.int .i64), .list (.int .i64), .list (.int .i64)]) D3 (by kernel_rfl) (.cons (l := [.list (.int .i64)]) (m := [.list (.int .i64), .list (.int .i64)]) D35 (by kernel_rfl) (.cons (l := [.list (.int .i64)]) (m := [.list (.int .i64)]) D35 (by kernel_rfl) (.cons (l := [.list (.int .i64)]) (m := []) D35 (by kernel_rfl) .nil))))))))))))) (by kernel_rfl) lt36
theorem lt37 : 37 < Try.prog.types.size := of_decide_eq_true (by kernel_rfl)
theorem D37 : Dat Try.prog 37 true [.int .i64, .int .i64, .int .i64, .int .i64, .int .i64, .bool, .list (.agg [.int .i64, .str]), .int .i64, .int .i64, .int .i64, .list (.int .i64), .list (.int .i64), .list (.int .i64)] := .struct Try.underlying37 (.cons (l := [.int .i64]) (m := [.int .i64, .int .i64, .int .i64, .int .i64, .bool, .list (.agg [.int .i64, .str]), .int .i64, .int .i64, .int .i64, .list (.int .i64), .list (.int .i64), .list (.int .i64)]) D3 (by kernel_rfl) (.cons (l := [.int .i64]) (m := [.int .i64, .int .i64, .int .i64, .bool, .list (.agg [.int .i64, .str]), .int .i64, .int .i64, .int .i64, .list (.int .i64), .list (.int .i64), .list (.int .i64)]) D3 (by kernel_rfl) (.cons (l := [.int .i64]) (m := [.int .i64, .int .i64, .bool, .list (.agg [.int .i64, .str]), .int .i64, .int .i64, .int .i64, .list (.int .i64), .list (.int .i64), .list (.int .i64)]) D3 (by kernel_rfl) (.cons (l := [.int .i64]) (m := [.int .i64, .bool, .list (.agg [.int .i64, .str]), .int .i64, .int .i64, .int .i64, .list (.int .i64), .list (.int .i64), .list (.int .i64)]) D3 (by kernel_rfl) (.cons (l := [.int .i64]) (m := [.bool, .list (.agg [.int .i64, .str]), .int .i64, .int .i64, .int .i64, .list (.int .i64), .list (.int .i64), .list (.int .i64)]) D3 (by kernel_rfl) (.cons (l := [.bool]) (m := [.list (.agg [.int .i64, .str]), .int .i64, .int .i64, .int .i64, .list (.int .i64), .list (.int .i64), .list (.int .i64)]) D4 (by kernel_rfl) (.cons (l := [.list (.agg [.int .i64, .str])]) (m := [.int .i64, .int .i64, .int .i64, .list (.int .i64), .list (.int .i64), .list (.int .i64)]) D34 (by kernel_rfl) (.cons (l := [.int .i64]) (m := [.int .i64, .int .i64, .list (.int .i64), .list (.int .i64), .list (.int .i64)]) D3 (by kernel_rfl) (.cons (l := [.int .i64]) (m := [.int .i64, .list (.int .i64), .list (.int .i64), .list (.int .i64)]) D3 (by kernel_rfl) (.cons (l := [.int .i64]) (m := [.list (.int .i64), .list (.int .i64), .list (.int .i64)]) D3 (by kernel_rfl) (.cons (l := [.list (.int .i64)]) (m := [.list (.int .i64), .list (.int .i64)]) D35 (by kernel_rfl) (.cons (l := [.list (.int .i64)]) (m := [.list (.int .i64)]) D35 (by kernel_rfl) (.cons (l := [.list (.int .i64)]) (m := []) D35 (by kernel_rfl) .nil))))))))))))) (by kernel_rfl) lt37
theorem lt128 : 128 < Try.prog.types.size := of_decide_eq_true (by kernel_rfl)
theorem D128 : Dat Try.prog 128 true [.int .i64, .str] := .struct Try.underlying128 (.cons (l := [.int .i64]) (m := [.str]) D3 (by kernel_rfl) (.cons (l := [.str]) (m := []) D9 (by kernel_rfl) .nil)) (by kernel_rfl) lt128
theorem lt39 : 39 < Try.prog.types.size := of_decide_eq_true (by kernel_rfl)
theorem D39 : Dat Try.prog 39 false [.list (.agg [.int .i64, .str])] := .slice (e := 128) (g := true) (l := [.int .i64, .str]) Try.underlying39 D128 (by kernel_rfl) (by decide) (of_decide_eq_true (by kernel_rfl)) lt39
theorem lt40 : 40 < Try.prog.types.size := of_decide_eq_true (by kernel_rfl)
theorem D40 : Dat Try.prog 40 true [.int .i64, .int .i64, .int .i64, .int .i64, .int .i64, .bool, .list (.agg [.int .i64, .str]), .int .i64, .int .i64, .int .i64, .list (.int .i64), .list (.int .i64), .list (.int .i64)] := .struct Try.underlying40 (.cons (l := [.int .i64]) (m := [.int .i64, .int .i64, .int .i64, .int .i64, .bool, .list (.agg [.int .i64, .str]), .int .i64, .int .i64, .int .i64, .list (.int .i64), .list (.int .i64), .list (.int .i64)]) D3 (by kernel_rfl) (.cons (l := [.int .i64]) (m := [.int .i64, .int .i64, .int .i64, .bool, .list (.agg [.int .i64, .str]), .int .i64, .int .i64, .int .i64, .list (.int .i64), .list (.int .i64), .list (.int .i64)]) D3 (by kernel_rfl) (.cons (l := [.int .i64]) (m := [.int .i64, .int .i64, .bool, .list (.agg [.int .i64, .str]), .int .i64, .int .i64, .int .i64, .list (.int .i64), .list (.int .i64), .list (.int .i64)]) D3 (by kernel_rfl) (.cons (l := [.int .i64]) (m := [.int .i64, .bool, .list (.agg [.int .i64, .str]), .int .i64, .int .i64, .int .i64, .list (.int .i64), .list (.int .i64), .list (.int .i64)]) D3 (by kernel_rfl) (.cons (l := [.int .i64]) (m := [.bool, .list (.agg [.int .i64, .str]), .int .i64, .int .i64, .int .i64, .list (.int .i64), .list (.int .i64), .list (.int .i64)]) D3 (by kernel_rfl) (.cons (l := [.bool]) (m := [.list (.agg [.int .i64, .str]), .int .i64, .int .i64, .int .i64, .list (.int .i64), .list (.int .i64), .list (.int .i64)]) D4 (by kernel_rfl) (.cons (l := [.list (.agg [.int .i64, .str])]) (m := [.int .i64, .int .i64, .int .i64, .list (.int .i64), .list (.int .i64), .list (.int .i64)]) D39 (by kernel_rfl) (.cons (l := [.int .i64]) (m := [.int .i64, .int .i64, .list (.int .i64), .list (.int .i64), .list (.int .i64)]) D3 (by kernel_rfl) (.cons (l := [.int .i64]) (m := [.int .i64, .list (.int .i64), .list (.int .i64), .list (.int .i64)]) D3 (by kernel_rfl) (.cons (l := [.int .i64]) (m := [.list (.int .i64), .list (.int .i64), .list (.int .i64)]) D3 (by kernel_rfl) (.cons (l := [.list (.int .i64)]) (m := [.list (.int .i64), .list (.int .i64)]) D35 (by kernel_rfl) (.cons (l := [.list (.int .i64)]) (m := [.list (.int .i64)]) D35 (by kernel_rfl) (.cons (l := [.list (.int .i64)]) (m := []) D35 (by kernel_rfl) .nil))))))))))))) (by kernel_rfl) lt40
theorem lt41 : 41 < Try.prog.types.size := of_decide_eq_true (by kernel_rfl)
theorem D41 : Dat Try.prog 41 true [.int .i64, .int .i64, .int .i64, .int .i64, .int .i64, .bool, .list (.agg [.int .i64, .str]), .int .i64, .int .i64, .int .i64, .list (.int .i64), .list (.int .i64), .list (.int .i64)] := .struct Try.underlying41 (.cons (l := [.int .i64]) (m := [.int .i64, .int .i64, .int .i64, .int .i64, .bool, .list (.agg [.int .i64, .str]), .int .i64, .int .i64, .int .i64, .list (.int .i64), .list (.int .i64), .list (.int .i64)]) D3 (by kernel_rfl) (.cons (l := [.int .i64]) (m := [.int .i64, .int .i64, .int .i64, .bool, .list (.agg [.int .i64, .str]), .int .i64, .int .i64, .int .i64, .list (.int .i64), .list (.int .i64), .list (.int .i64)]) D3 (by kernel_rfl) (.cons (l := [.int .i64]) (m := [.int .i64, .int .i64, .bool, .list (.agg [.int .i64, .str]), .int .i64, .int .i64, .int .i64, .list (.int .i64), .list (.int .i64), .list (.int .i64)]) D3 (by kernel_rfl) (.cons (l := [.int .i64]) (m := [.int .i64, .bool, .list (.agg [.int .i64, .str]), .int .i64, .int .i64, .int .i64, .list (.int .i64), .list (.int .i64), .list (.int .i64)]) D3 (by kernel_rfl) (.cons (l := [.int .i64]) (m := [.bool, .list (.agg [.int .i64, .str]), .int .i64, .int .i64, .int .i64, .list (.int .i64), .list (.int .i64), .list (.int .i64)]) D3 (by kernel_rfl) (.cons (l := [.bool]) (m := [.list (.agg [.int .i64, .str]), .int .i64, .int .i64, .int .i64, .list (.int .i64), .list (.int .i64), .list (.int .i64)]) D4 (by kernel_rfl) (.cons (l := [.list (.agg [.int .i64, .str])]) (m := [.int .i64, .int .i64, .int .i64, .list (.int .i64), .list (.int .i64), .list (.int .i64)]) D39 (by kernel_rfl) (.cons (l := [.int .i64]) (m := [.int .i64, .int .i64, .list (.int .i64), .list (.int .i64), .list (.int .i64)]) D3 (by kernel_rfl) (.cons (l := [.int .i64]) (m := [.int .i64, .list (.int .i64), .list (.int .i64), .list (.int .i64)]) D3 (by kernel_rfl) (.cons (l := [.int .i64]) (m := [.list (.int .i64), .list (.int .i64), .list (.int .i64)]) D3 (by kernel_rfl) (.cons (l := [.list (.int .i64)]) (m := [.list (.int .i64), .list (.int .i64)]) D35 (by kernel_rfl) (.cons (l := [.list (.int .i64)]) (m := [.list (.int .i64)]) D35 (by kernel_rfl) (.cons (l := [.list (.int .i64)]) (m := []) D35 (by kernel_rfl) .nil))))))))))))) (by kernel_rfl) lt41
theorem lt54 : 54 < Try.prog.types.size := of_decide_eq_true (by kernel_rfl)
theorem D54 : Dat Try.prog 54 true [.int .i64, .int .i64, .int .i64, .int .i64, .int .i64, .int .i64, .int .i64, .bool, .list (.agg [.int .i64, .str])] := .struct Try.underlying54 (.cons (l := [.int .i64]) (m := [.int .i64, .int .i64, .int .i64, .int .i64, .int .i64, .int .i64, .bool, .list (.agg [.int .i64, .str])]) D3 (by kernel_rfl) (.cons (l := [.int .i64]) (m := [.int .i64, .int .i64, .int .i64, .int .i64, .int .i64, .bool, .list (.agg [.int .i64, .str])]) D3 (by kernel_rfl) (.cons (l := [.int .i64]) (m := [.int .i64, .int .i64, .int .i64, .int .i64, .bool, .list (.agg [.int .i64, .str])]) D3 (by kernel_rfl) (.cons (l := [.int .i64]) (m := [.int .i64, .int .i64, .int .i64, .bool, .list (.agg [.int .i64, .str])]) D3 (by kernel_rfl) (.cons (l := [.int .i64]) (m := [.int .i64, .int .i64, .bool, .list (.agg [.int .i64, .str])]) D3 (by kernel_rfl) (.cons (l := [.int .i64]) (m := [.int .i64, .bool, .list (.agg [.int .i64, .str])]) D3 (by kernel_rfl) (.cons (l := [.int .i64]) (m := [.bool, .list (.agg [.int .i64, .str])]) D3 (by kernel_rfl) (.cons (l := [.bool]) (m := [.list (.agg [.int .i64, .str])]) D4 (by kernel_rfl) (.cons (l := [.list (.agg [.int .i64, .str])]) (m := []) D39 (by kernel_rfl) .nil))))))))) (by kernel_rfl) lt54
theorem lt42 : 42 < Try.prog.types.size := of_decide_eq_true (by kernel_rfl)
theorem D42 : Dat Try.prog 42 false [.list (.agg [.int .i64, .int .i64, .int .i64, .int .i64, .int .i64, .int .i64, .int .i64, .bool, .list (.agg [.int .i64, .str])])] := .slice (e := 54) (g := true) (l := [.int .i64, .int .i64, .int .i64, .int .i64, .int .i64, .int .i64, .int .i64, .bool, .list (.agg [.int .i64, .str])]) Try.underlying42 D54 (by kernel_rfl) (by decide) (of_decide_eq_true (by kernel_rfl)) lt42
theorem lt53 : 53 < Try.prog.types.size := of_decide_eq_true (by kernel_rfl)
theorem D53 : Dat Try.prog 53 true [.int .i64, .int .i64, .int .i64, .int .i64, .int .i64, .int .i64, .int .i64, .bool, .list (.agg [.int .i64, .str])] := .struct Try.underlying53 (.cons (l := [.int .i64]) (m := [.int .i64, .int .i64, .int .i64, .int .i64, .int .i64, .int .i64, .bool, .list (.agg [.int .i64, .str])]) D3 (by kernel_rfl) (.cons (l := [.int .i64]) (m := [.int .i64, .int .i64, .int .i64, .int .i64, .int .i64, .bool, .list (.agg [.int .i64, .str])]) D3 (by kernel_rfl) (.cons (l := [.int .i64]) (m := [.int .i64, .int .i64, .int .i64, .int .i64, .bool, .list (.agg [.int .i64, .str])]) D3 (by kernel_rfl) (.cons (l := [.int .i64]) (m := [.int .i64, .int .i64, .int .i64, .bool, .list (.agg [.int .i64, .str])]) D3 (by kernel_rfl) (.cons (l := [.int .i64]) (m := [.int .i64, .int .i64, .bool, .list (.agg [.int .i64, .str])]) D3 (by kernel_rfl) (.cons (l := [.int .i64]) (m := [.int .i64, .bool, .list (.agg [.int .i64, .str])]) D3 (by kernel_rfl) (.cons (l := [.int .i64]) (m := [.bool, .list (.agg [.int .i64, .str])]) D3 (by kernel_rfl) (.cons (l := [.bool]) (m := [.list (.agg [.int .i64, .str])]) D4 (by kernel_rfl) (.cons (l := [.list (.agg [.int .i64, .str])]) (m := []) D39 (by kernel_rfl) .nil))))))))) (by kernel_rfl) lt53
theorem lt59 : 59 < Try.prog.types.size := of_decide_eq_true (by kernel_rfl)
theorem D59 : Dat Try.prog 59 false [.list (.str)] := .slice (e := 9) (g := false) (l := [.str]) Try.underlying59 D9 (by kernel_rfl) (by decide) (of_decide_eq_true (by kernel_rfl)) lt59
theorem lt69 : 69 < Try.prog.types.size := of_decide_eq_true (by kernel_rfl)
theorem D69 : Dat Try.prog 69 true [.int .i64, .int .i64, .int .i64, .int .i64, .int .i64, .int .i64, .int .i64, .bool, .list (.agg [.int .i64, .str])] := .struct Try.underlying69 (.cons (l := [.int .i64]) (m := [.int .i64, .int .i64, .int .i64, .int .i64, .int .i64, .int .i64, .bool, .list (.agg [.int .i64, .str])]) D3 (by kernel_rfl) (.cons (l := [.int .i64]) (m := [.int .i64, .int .i64, .int .i64, .int .i64, .int .i64, .bool, .list (.agg [.int .i64, .str])]) D3 (by kernel_rfl) (.cons (l := [.int .i64]) (m := [.int .i64, .int .i64, .int .i64, .int .i64, .bool, .list (.agg [.int .i64, .str])]) D3 (by kernel_rfl) (.cons (l := [.int .i64]) (m := [.int .i64, .int .i64, .int .i64, .bool, .list (.agg [.int .i64, .str])]) D3 (by kernel_rfl) (.cons (l := [.int .i64]) (m := [.int .i64, .int .i64, .bool, .list (.agg [.int .i64, .str])]) D3 (by kernel_rfl) (.cons (l := [.int .i64]) (m := [.int .i64, .bool, .list (.agg [.int .i64, .str])]) D3 (by kernel_rfl) (.cons (l := [.int .i64]) (m := [.bool, .list (.agg [.int .i64, .str])]) D3 (by kernel_rfl) (.cons (l := [.bool]) (m := [.list (.agg [.int .i64, .str])]) D4 (by kernel_rfl) (.cons (l := [.list (.agg [.int .i64, .str])]) (m := []) D34 (by kernel_rfl) .nil))))))))) (by kernel_rfl) lt69
theorem lt70 : 70 < Try.prog.types.size := of_decide_eq_true (by kernel_rfl)
theorem D70 : Dat Try.prog 70 true [.int .i64, .int .i64, .int .i64, .int .i64, .int .i64, .int .i64, .int .i64, .bool, .list (.agg [.int .i64, .str])] := .struct Try.underlying70 (.cons (l := [.int .i64]) (m := [.int .i64, .int .i64, .int .i64, .int .i64, .int .i64, .int .i64, .bool, .list (.agg [.int .i64, .str])]) D3 (by kernel_rfl) (.cons (l := [.int .i64]) (m := [.int .i64, .int .i64, .int .i64, .int .i64, .int .i64, .bool, .list (.agg [.int .i64, .str])]) D3 (by kernel_rfl) (.cons (l := [.int .i64]) (m := [.int .i64, .int .i64, .int .i64, .int .i64, .bool, .list (.agg [.int .i64, .str])]) D3 (by kernel_rfl) (.cons (l := [.int .i64]) (m := [.int .i64, .int .i64, .int .i64, .bool, .list (.agg [.int .i64, .str])]) D3 (by kernel_rfl) (.cons (l := [.int .i64]) (m := [.int .i64, .int .i64, .bool, .list (.agg [.int .i64, .str])]) D3 (by kernel_rfl) (.cons (l := [.int .i64]) (m := [.int .i64, .bool, .list (.agg [.int .i64, .str])]) D3 (by kernel_rfl) (.cons (l := [.int .i64]) (m := [.bool, .list (.agg [.int .i64, .str])]) D3 (by kernel_rfl) (.cons (l := [.bool]) (m := [.list (.agg [.int .i64, .str])]) D4 (by kernel_rfl) (.cons (l := [.list (.agg [.int .i64, .str])]) (m := []) D34 (by kernel_rfl) .nil))))))))) (by kernel_rfl) lt70
theorem lt104 : 104 < Try.prog.types.size := of_decide_eq_true (by kernel_rfl)
theorem D104 : Dat Try.prog 104 true [.int .i64, .str] := .struct Try.underlying104 (.cons (l := [.int .i64]) (m := [.str]) D3 (by kernel_rfl) (.cons (l := [.str]) (m := []) D9 (by kernel_rfl) .nil)) (by kernel_rfl) lt104
theorem lt118 : 118 < Try.prog.types.size := of_decide_eq_true (by kernel_rfl)
theorem D118 : Dat Try.prog 118 true [.int .i64, .str] := .struct Try.underlying118 (.cons (l := [.int .i64]) (m := [.str]) D3 (by kernel_rfl) (.cons (l := [.str]) (m := []) D9 (by kernel_rfl) .nil)) (by kernel_rfl) lt118
theorem lt121 : 121 < Try.prog.types.size := of_decide_eq_true (by kernel_rfl)
theorem D121 : Dat Try.prog 121 true [.int .i64, .int .i64, .list (.agg [.int .i64, .str])] := .struct Try.underlying121 (.cons (l := [.int .i64]) (m := [.int .i64, .list (.agg [.int .i64, .str])]) D3 (by kernel_rfl) (.cons (l := [.int .i64]) (m := [.list (.agg [.int .i64, .str])]) D3 (by kernel_rfl) (.cons (l := [.list (.agg [.int .i64, .str])]) (m := []) D39 (by kernel_rfl) .nil))) (by kernel_rfl) lt121
theorem lt122 : 122 < Try.prog.types.size := of_decide_eq_true (by kernel_rfl)
theorem D122 : Dat Try.prog 122 true [.int .i64, .int .i64, .list (.agg [.int .i64, .str])] := .struct Try.underlying122 (.cons (l := [.int .i64]) (m := [.int .i64, .list (.agg [.int .i64, .str])]) D3 (by kernel_rfl) (.cons (l := [.int .i64]) (m := [.list (.agg [.int .i64, .str])]) D3 (by kernel_rfl) (.cons (l := [.list (.agg [.int .i64, .str])]) (m := []) D39 (by kernel_rfl) .nil))) (by kernel_rfl) lt122
theorem lt125 : 125 < Try.prog.types.size := of_decide_eq_true (by kernel_rfl)
theorem D125 : Dat Try.prog 125 true [.int .i64, .int .i64, .int .i64, .int .i64, .int .i64, .bool, .list (.agg [.int .i64, .str]), .int .i64, .int .i64, .int .i64, .list (.int .i64), .list (.int .i64), .list (.int .i64), .list (.agg [.int .i64, .int .i64, .int .i64, .int .i64, .int .i64, .int .i64, .int .i64, .bool, .list (.agg [.int .i64, .str])])] := .struct Try.underlying125 (.cons (l := [.int .i64, .int .i64, .int .i64, .int .i64, .int .i64, .bool, .list (.agg [.int .i64, .str]), .int .i64, .int .i64, .int .i64, .list (.int .i64), .list (.int .i64), .list (.int .i64)]) (m := [.list (.agg [.int .i64, .int .i64, .int .i64, .int .i64, .int .i64, .int .i64, .int .i64, .bool, .list (.agg [.int .i64, .str])])]) D41 (by kernel_rfl) (.cons (l := [.list (.agg [.int .i64, .int .i64, .int .i64, .int .i64, .int .i64, .int .i64, .int .i64, .bool, .list (.agg [.int .i64, .str])])]) (m := []) D42 (by kernel_rfl) .nil)) (by kernel_rfl) lt125
theorem lt126 : 126 < Try.prog.types.size := of_decide_eq_true (by kernel_rfl)
theorem D126 : Dat Try.prog 126 true [.int .i64, .int .i64, .int .i64, .int .i64, .int .i64, .bool, .list (.agg [.int .i64, .str]), .int .i64, .int .i64, .int .i64, .list (.int .i64), .list (.int .i64), .list (.int .i64), .list (.agg [.int .i64, .int .i64, .int .i64, .int .i64, .int .i64, .int .i64, .int .i64, .bool, .list (.agg [.int .i64, .str])])] := .struct Try.underlying126 (.cons (l := [.int .i64, .int .i64, .int .i64, .int .i64, .int .i64, .bool, .list (.agg [.int .i64, .str]), .int .i64, .int .i64, .int .i64, .list (.int .i64), .list (.int .i64), .list (.int .i64)]) (m := [.list (.agg [.int .i64, .int .i64, .int .i64, .int .i64, .int .i64, .int .i64, .int .i64, .bool, .list (.agg [.int .i64, .str])])]) D41 (by kernel_rfl) (.cons (l := [.list (.agg [.int .i64, .int .i64, .int .i64, .int .i64, .int .i64, .int .i64, .int .i64, .bool, .list (.agg [.int .i64, .str])])]) (m := []) D42 (by kernel_rfl) .nil)) (by kernel_rfl) lt126
theorem lt136 : 136 < Try.prog.types.size := of_decide_eq_true (by kernel_rfl)
theorem D136 : Dat Try.prog 136 true [.list (.int .u8), .int .i64, .int .i64] := .struct Try.underlying136 (.cons (l := [.list (.int .u8)]) (m := [.int .i64, .int .i64]) D22 (by kernel_rfl) (.cons (l := [.int .i64]) (m := [.int .i64]) D3 (by kernel_rfl) (.cons (l := [.int .i64]) (m := []) D3 (by kernel_rfl) .nil))) (by kernel_rfl) lt136
theorem lt137 : 137 < Try.prog.types.size := of_decide_eq_true (by kernel_rfl)
theorem D137 : Dat Try.prog 137 true [.list (.int .u8), .int .i64, .int .i64] := .struct Try.underlying137 (.cons (l := [.list (.int .u8)]) (m := [.int .i64, .int .i64]) D22 (by kernel_rfl) (.cons (l := [.int .i64]) (m := [.int .i64]) D3 (by kernel_rfl) (.cons (l := [.int .i64]) (m := []) D3 (by kernel_rfl) .nil))) (by kernel_rfl) lt137
theorem lt178 : 178 < Try.prog.types.size := of_decide_eq_true (by kernel_rfl)
theorem D178 : Dat Try.prog 178 true [.int .i64, .int .i64] := .struct Try.underlying178 (.cons (l := [.int .i64]) (m := [.int .i64]) D3 (by kernel_rfl) (.cons (l := [.int .i64]) (m := []) D3 (by kernel_rfl) .nil)) (by kernel_rfl) lt178
theorem lt150 : 150 < Try.prog.types.size := of_decide_eq_true (by kernel_rfl)
theorem D150 : Dat Try.prog 150 false [.list (.agg [.int .i64, .int .i64])] := .slice (e := 178) (g := true) (l := [.int .i64, .int .i64]) Try.underlying150 D178 (by kernel_rfl) (by decide) (of_decide_eq_true (by kernel_rfl)) lt150
theorem lt151 : 151 < Try.prog.types.size := of_decide_eq_true (by kernel_rfl)
theorem D151 : Dat Try.prog 151 true [.int .i64, .int .i64, .int .i64, .int .i64, .int .i64, .int .i64, .int .i64, .int .i64, .int .i64, .str, .list (.agg [.int .i64, .int .i64]), .list (.str)] := .struct Try.underlying151 (.cons (l := [.int .i64]) (m := [.int .i64, .int .i64, .int .i64, .int .i64, .int .i64, .int .i64, .int .i64, .int .i64, .str, .list (.agg [.int .i64, .int .i64]), .list (.str)]) D3 (by kernel_rfl) (.cons (l := [.int .i64]) (m := [.int .i64, .int .i64, .int .i64, .int .i64, .int .i64, .int .i64, .int .i64, .str, .list (.agg [.int .i64, .int .i64]), .list (.str)]) D3 (by kernel_rfl) (.cons (l := [.int .i64]) (m := [.int .i64, .int .i64, .int .i64, .int .i64, .int .i64, .int .i64, .str, .list (.agg [.int .i64, .int .i64]), .list (.str)]) D3 (by kernel_rfl) (.cons (l := [.int .i64]) (m := [.int .i64, .int .i64, .int .i64, .int .i64, .int .i64, .str, .list (.agg [.int .i64, .int .i64]), .list (.str)]) D3 (by kernel_rfl) (.cons (l := [.int .i64]) (m := [.int .i64, .int .i64, .int .i64, .int .i64, .str, .list (.agg [.int .i64, .int .i64]), .list (.str)]) D3 (by kernel_rfl) (.cons (l := [.int .i64]) (m := [.int .i64, .int .i64, .int .i64, .str, .list (.agg [.int .i64, .int .i64]), .list (.str)]) D3 (by kernel_rfl) (.cons (l := [.int .i64]) (m := [.int .i64, .int .i64, .str, .list (.agg [.int .i64, .int .i64]), .list (.str)]) D3 (by kernel_rfl) (.cons (l := [.int .i64]) (m := [.int .i64, .str, .list (.agg [.int .i64, .int .i64]), .list (.str)]) D3 (by kernel_rfl) (.cons (l := [.int .i64]) (m := [.str, .list (.agg [.int .i64, .int .i64]), .list (.str)]) D3 (by kernel_rfl) (.cons (l := [.str]) (m := [.list (.agg [.int .i64, .int .i64]), .list (.str)]) D9 (by kernel_rfl) (.cons (l := [.list (.agg [.int .i64, .int .i64])]) (m := [.list (.str)]) D150 (by kernel_rfl) (.cons (l := [.list (.str)]) (m := []) D59 (by kernel_rfl) .nil)))))))))))) (by kernel_rfl) lt151
theorem lt152 : 152 < Try.prog.types.size := of_decide_eq_true (by kernel_rfl)
theorem D152 : Dat Try.prog 152 true [.int .i64, .int .i64, .int .i64, .int .i64, .int .i64, .int .i64, .int .i64, .int .i64, .int .i64, .str, .list (.agg [.int .i64, .int .i64]), .list (.str)] := .struct Try.underlying152 (.cons (l := [.int .i64]) (m := [.int .i64, .int .i64, .int .i64, .int .i64, .int .i64, .int .i64, .int .i64, .int .i64, .str, .list (.agg [.int .i64, .int .i64]), .list (.str)]) D3 (by kernel_rfl) (.cons (l := [.int .i64]) (m := [.int .i64, .int .i64, .int .i64, .int .i64, .int .i64, .int .i64, .int .i64, .str, .list (.agg [.int .i64, .int .i64]), .list (.str)]) D3 (by kernel_rfl) (.cons (l := [.int .i64]) (m := [.int .i64, .int .i64, .int .i64, .int .i64, .int .i64, .int .i64, .str, .list (.agg [.int .i64, .int .i64]), .list (.str)]) D3 (by kernel_rfl) (.cons (l := [.int .i64]) (m := [.int .i64, .int .i64, .int .i64, .int .i64, .int .i64, .str, .list (.agg [.int .i64, .int .i64]), .list (.str)]) D3 (by kernel_rfl) (.cons (l := [.int .i64]) (m := [.int .i64, .int .i64, .int .i64, .int .i64, .str, .list (.agg [.int .i64, .int .i64]), .list (.str)]) D3 (by kernel_rfl) (.cons (l := [.int .i64]) (m := [.int .i64, .int .i64, .int .i64, .str, .list (.agg [.int .i64, .int .i64]), .list (.str)]) D3 (by kernel_rfl) (.cons (l := [.int .i64]) (m := [.int .i64, .int .i64, .str, .list (.agg [.int .i64, .int .i64]), .list (.str)]) D3 (by kernel_rfl) (.cons (l := [.int .i64]) (m := [.int .i64, .str, .list (.agg [.int .i64, .int .i64]), .list (.str)]) D3 (by kernel_rfl) (.cons (l := [.int .i64]) (m := [.str, .list (.agg [.int .i64, .int .i64]), .list (.str)]) D3 (by kernel_rfl) (.cons (l := [.str]) (m := [.list (.agg [.int .i64, .int .i64]), .list (.str)]) D9 (by kernel_rfl) (.cons (l := [.list (.agg [.int .i64, .int .i64])]) (m := [.list (.str)]) D150 (by kernel_rfl) (.cons (l := [.list (.str)]) (m := []) D59 (by kernel_rfl) .nil)))))))))))) (by kernel_rfl) lt152
theorem lt154 : 154 < Try.prog.types.size := of_decide_eq_true (by kernel_rfl)
theorem D154 : Dat Try.prog 154 true [.int .i64, .list (.int .i64), .bool, .str, .str] := .struct Try.underlying154 (.cons (l := [.int .i64]) (m := [.list (.int .i64), .bool, .str, .str]) D3 (by kernel_rfl) (.cons (l := [.list (.int .i64)]) (m := [.bool, .str, .str]) D35 (by kernel_rfl) (.cons (l := [.bool]) (m := [.str, .str]) D4 (by kernel_rfl) (.cons (l := [.str]) (m := [.str]) D9 (by kernel_rfl) (.cons (l := [.str]) (m := []) D9 (by kernel_rfl) .nil))))) (by kernel_rfl) lt154
theorem lt155 : 155 < Try.prog.types.size := of_decide_eq_true (by kernel_rfl)
theorem D155 : Dat Try.prog 155 true [.int .i64, .list (.int .i64), .bool, .str, .str] := .struct Try.underlying155 (.cons (l := [.int .i64]) (m := [.list (.int .i64), .bool, .str, .str]) D3 (by kernel_rfl) (.cons (l := [.list (.int .i64)]) (m := [.bool, .str, .str]) D35 (by kernel_rfl) (.cons (l := [.bool]) (m := [.str, .str]) D4 (by kernel_rfl) (.cons (l := [.str]) (m := [.str]) D9 (by kernel_rfl) (.cons (l := [.str]) (m := []) D9 (by kernel_rfl) .nil))))) (by kernel_rfl) lt155
theorem lt174 : 174 < Try.prog.types.size := of_decide_eq_true (by kernel_rfl)
theorem D174 : Dat Try.prog 174 false [.int .u64] := .int Try.underlying174 lt174
theorem lt177 : 177 < Try.prog.types.size := of_decide_eq_true (by kernel_rfl)
theorem D177 : Dat Try.prog 177 true [.int .i64, .int .i64] := .struct Try.underlying177 (.cons (l := [.int .i64]) (m := [.int .i64]) D3 (by kernel_rfl) (.cons (l := [.int .i64]) (m := []) D3 (by kernel_rfl) .nil)) (by kernel_rfl) lt177
theorem lt189 : 189 < Try.prog.types.size := of_decide_eq_true (by kernel_rfl)
theorem D189 : Dat Try.prog 189 true [.int .i64, .int .i64, .bool, .list (.int .i64), .str] := .struct Try.underlying189 (.cons (l := [.int .i64]) (m := [.int .i64, .bool, .list (.int .i64), .str]) D3 (by kernel_rfl) (.cons (l := [.int .i64]) (m := [.bool, .list (.int .i64), .str]) D3 (by kernel_rfl) (.cons (l := [.bool]) (m := [.list (.int .i64), .str]) D4 (by kernel_rfl) (.cons (l := [.list (.int .i64)]) (m := [.str]) D35 (by kernel_rfl) (.cons (l := [.str]) (m := []) D9 (by kernel_rfl) .nil))))) (by kernel_rfl) lt189
theorem lt180 : 180 < Try.prog.types.size := of_decide_eq_true (by kernel_rfl)
theorem D180 : Dat Try.prog 180 false [.list (.agg [.int .i64, .int .i64, .bool, .list (.int .i64), .str])] := .slice (e := 189) (g := true) (l := [.int .i64, .int .i64, .bool, .list (.int .i64), .str]) Try.underlying180 D189 (by kernel_rfl) (by decide) (of_decide_eq_true (by kernel_rfl)) lt180
theorem lt185 : 185 < Try.prog.types.size := of_decide_eq_true (by kernel_rfl)
theorem D185 : Dat Try.prog 185 true [.int .i64, .int .i64, .int .i64, .int .i64, .int .i64, .int .i64, .int .i64, .int .i64, .int .i64, .str, .list (.agg [.int .i64, .int .i64]), .list (.str)] := .struct Try.underlying185 (.cons (l := [.int .i64, .int .i64, .int .i64, .int .i64, .int .i64, .int .i64, .int .i64, .int .i64, .int .i64, .str, .list (.agg [.int .i64, .int .i64]), .list (.str)]) (m := []) D152 (by kernel_rfl) .nil) (by kernel_rfl) lt185
theorem lt186 : 186 < Try.prog.types.size := of_decide_eq_true (by kernel_rfl)
theorem D186 : Dat Try.prog 186 true [.int .i64, .int .i64, .int .i64, .int .i64, .int .i64, .int .i64, .int .i64, .int .i64, .int .i64, .str, .list (.agg [.int .i64, .int .i64]), .list (.str)] := .struct Try.underlying186 (.cons (l := [.int .i64, .int .i64, .int .i64, .int .i64, .int .i64, .int .i64, .int .i64, .int .i64, .int .i64, .str, .list (.agg [.int .i64, .int .i64]), .list (.str)]) (m := []) D152 (by kernel_rfl) .nil) (by kernel_rfl) lt186
theorem lt188 : 188 < Try.prog.types.size := of_decide_eq_true (by kernel_rfl)
theorem D188 : Dat Try.prog 188 true [.int .i64, .int .i64, .bool, .list (.int .i64), .str] := .struct Try.underlying188 (.cons (l := [.int .i64]) (m := [.int .i64, .bool, .list (.int .i64), .str]) D3 (by kernel_rfl) (.cons (l := [.int .i64]) (m := [.bool, .list (.int .i64), .str]) D3 (by kernel_rfl) (.cons (l := [.bool]) (m := [.list (.int .i64), .str]) D4 (by kernel_rfl) (.cons (l := [.list (.int .i64)]) (m := [.str]) D35 (by kernel_rfl) (.cons (l := [.str]) (m := []) D9 (by kernel_rfl) .nil))))) (by kernel_rfl) lt188
theorem lt203 : 203 < Try.prog.types.size := of_decide_eq_true (by kernel_rfl)
theorem D203 : Dat Try.prog 203 true [.int .i64, .list (.int .i64), .bool, .str, .str, .list (.agg [.int .i64, .int .i64, .bool, .list (.int .i64), .str])] := .struct Try.underlying203 (.cons (l := [.int .i64, .list (.int .i64), .bool, .str, .str]) (m := [.list (.agg [.int .i64, .int .i64, .bool, .list (.int .i64), .str])]) D155 (by kernel_rfl) (.cons (l := [.list (.agg [.int .i64, .int .i64, .bool, .list (.int .i64), .str])]) (m := []) D180 (by kernel_rfl) .nil)) (by kernel_rfl) lt203
theorem lt204 : 204 < Try.prog.types.size := of_decide_eq_true (by kernel_rfl)
theorem D204 : Dat Try.prog 204 true [.int .i64, .list (.int .i64), .bool, .str, .str, .list (.agg [.int .i64, .int .i64, .bool, .list (.int .i64), .str])] := .struct Try.underlying204 (.cons (l := [.int .i64, .list (.int .i64), .bool, .str, .str]) (m := [.list (.agg [.int .i64, .int .i64, .bool, .list (.int .i64), .str])]) D155 (by kernel_rfl) (.cons (l := [.list (.agg [.int .i64, .int .i64, .bool, .list (.int .i64), .str])]) (m := []) D180 (by kernel_rfl) .nil)) (by kernel_rfl) lt204
theorem lt219 : 219 < Try.prog.types.size := of_decide_eq_true (by kernel_rfl)
theorem D219 : Dat Try.prog 219 false [.int .u32] := .int Try.underlying219 lt219
theorem lt222 : 222 < Try.prog.types.size := of_decide_eq_true (by kernel_rfl)
theorem D222 : Dat Try.prog 222 false [.int .u64] := .int Try.underlying222 lt222
theorem lt230 : 230 < Try.prog.types.size := of_decide_eq_true (by kernel_rfl)
theorem D230 : Dat Try.prog 230 false [.int .u8] := .int Try.underlying230 lt230
theorem lt231 : 231 < Try.prog.types.size := of_decide_eq_true (by kernel_rfl)
theorem D231 : Dat Try.prog 231 false [.int .u8] := .int Try.underlying231 lt231
theorem lt233 : 233 < Try.prog.types.size := of_decide_eq_true (by kernel_rfl)
theorem D233 : Dat Try.prog 233 false [.int .i32] := .int Try.underlying233 lt233
theorem lt234 : 234 < Try.prog.types.size := of_decide_eq_true (by kernel_rfl)
theorem D234 : Dat Try.prog 234 false [.int .i32] := .int Try.underlying234 lt234

theorem dat_lt : ∀ t g l, Dat Try.prog t g l → t < Try.prog.types.size := fun _ _ _ h => h.lt
theorem laid_all : laidOutB Try.prog = true := by kernel_rfl
theorem rowed_all : mapsRowed Try.prog = true := by kernel_rfl
theorem slices_all : ((List.range Try.prog.types.size).all fun t => match Try.prog.underlying t with | some (.slice e) => decide (0 < Try.prog.cellsOf e) | _ => true) = true := by kernel_rfl
theorem own_knob : ownKnob Try.prog.godebug = none := by kernel_rfl

end Go.Proofs.Ytmjjdfhpnckacab
end

