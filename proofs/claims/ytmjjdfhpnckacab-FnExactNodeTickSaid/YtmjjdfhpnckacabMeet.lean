/-
  What a function's contract means; how arguments are handed over.
  Conditions: none.
-/
import Derived.Test.YtmjjdfhpnckacabOpK
namespace Go.Proofs.Ytmjjdfhpnckacab
set_option linter.unusedVariables false

/-- An argument that is only read: its blocks, those of them that slices reach. -/
def ArgB (w : World) (T : PTy) (p : PV) (v : Value) (f fl : List Nat) : Prop :=
  match T with
  | .agg ts => ∃ qs cs, p = .agg qs ∧ v = .agg cs.toArray ∧ Lv w ts qs cs f ∧ fl = f
  | .box ts => ∃ qs cs b t pre post, p = .agg qs ∧ v = .pointer (some ⟨b, pre.length, none⟩) ∧ w.heap[b]? = some (.cells (pre ++ cs ++ post).toArray t (0, 0)) ∧ Lv w ts qs cs fl ∧ f = b :: fl
  | .abx T => ∃ es b t c, p = .list es ∧ v = .pointer (some ⟨b, 0, none⟩) ∧ w.heap[b]? = some (.cells c t (0, 0)) ∧ flatB T = true ∧ (∀ e ∈ es, Shp T e) ∧ Lv w (flatT T es.length) (flatP es) c.toList [] ∧ f = [b] ∧ fl = []
  | .fn _ _ => False
  | T => Lv w [T] [p] [v] f ∧ fl = f

inductive ArgBs (w : World) : List PTy → List PV → List Value → List Nat → List Nat → Prop
  | nil : ArgBs w [] [] [] [] []
  | cons {t ts p ps v vs f g fl gl} : ArgB w t p v f fl → ArgBs w ts ps vs g gl → ArgBs w (t :: ts) (p :: ps) (v :: vs) (f ++ g) (fl ++ gl)

def ArgV (w : World) (T : PTy) (p : PV) (v : Value) (f fl : List Nat) : Prop :=
  match T with
  | .fn g ts => ∃ qs cs, p = .agg qs ∧ v = .func (.func g) #[] cs.toArray ∧ ArgBs w ts qs cs f fl
  | T => ArgB w T p v f fl

/-- A slice or a struct of such, lent or given away. -/
def ArgM (w : World) (T : PTy) (p : PV) (v : Value) (f : List Nat) : Prop :=
  match T with
  | .agg ts => ∃ qs cs fs, p = .agg qs ∧ v = .agg cs.toArray ∧ LoD w ts qs cs fs ∧ f = fs.flatten
  | .list T => ∃ es, p = .list es ∧ OwnD w v T es f
  | _ => False

/-- A struct or an array behind a pointer, lent. -/
def ArgX (w : World) (T : PTy) (p : PV) (v : Value) (f : List Nat) : Prop :=
  match T with
  | .box ts => ∃ qs cs fs b t pre post, p = .agg qs ∧ v = .pointer (some ⟨b, pre.length, none⟩) ∧ w.heap[b]? = some (.cells (pre ++ cs ++ post).toArray t (0, 0)) ∧ LoD w ts qs cs fs ∧ f = b :: fs.flatten
  | .abx T => ∃ es b t c, p = .list es ∧ v = .pointer (some ⟨b, 0, none⟩) ∧ w.heap[b]? = some (.cells c t (0, 0)) ∧ flatB T = true ∧ (∀ e ∈ es, Shp T e) ∧ Lv w (flatT T es.length) (flatP es) c.toList [] ∧ f = [b]
  | _ => False

inductive ArgsV (w : World) : List (Md × PTy) → List PV → List Value → List Nat → List Nat → List Nat → Prop
  | nil : ArgsV w [] [] [] [] [] []
  | rd {t ts p ps v vs f fs fl fls ms} : ArgV w t p v f fl → ArgsV w ts ps vs fs fls ms → ArgsV w ((.rd, t) :: ts) (p :: ps) (v :: vs) (f ++ fs) (fl ++ fls) ms
  | mt {t ts p ps v vs f fs fls ms} : ArgM w t p v f → ArgsV w ts ps vs fs fls ms → ArgsV w ((.mt, t) :: ts) (p :: ps) (v :: vs) fs fls (f ++ ms)
  | ow {t ts p ps v vs f fs fls ms} : ArgM w t p v f → ArgsV w ts ps vs fs fls ms → ArgsV w ((.ow, t) :: ts) (p :: ps) (v :: vs) fs fls (f ++ ms)
  | bx {t ts p ps v vs f fs fls ms} : ArgX w t p v f → ArgsV w ts ps vs fs fls ms → ArgsV w ((.bx, t) :: ts) (p :: ps) (v :: vs) fs fls (f ++ ms)

/-- What lies behind a lent pointer afterwards; the rest of its block is as it was. -/
def OutX (w w' : World) (T : PTy) (p : PV) (v : Value) (f : List Nat) : Prop :=
  match T with
  | .box ts => ∃ qs cs cs' fs b t t' pre post, p = .agg qs ∧ v = .pointer (some ⟨b, pre.length, none⟩) ∧ w.heap[b]? = some (.cells (pre ++ cs ++ post).toArray t (0, 0)) ∧ cs.length = ts.length ∧ w'.heap[b]? = some (.cells (pre ++ cs' ++ post).toArray t' (0, 0)) ∧ LoD w' ts qs cs' fs ∧ f = b :: fs.flatten
  | .abx T => ∃ es b t c, p = .list es ∧ v = .pointer (some ⟨b, 0, none⟩) ∧ w'.heap[b]? = some (.cells c t (0, 0)) ∧ flatB T = true ∧ (∀ e ∈ es, Shp T e) ∧ Lv w' (flatT T es.length) (flatP es) c.toList [] ∧ f = [b]
  | _ => False

/-- The lent arguments afterwards. -/
inductive OutV (w w' : World) : List (Md × PTy) → List PV → List Value → List Nat → Prop
  | nil : OutV w w' [] [] [] []
  | rd {t ts ps v vs ms} : OutV w w' ts ps vs ms → OutV w w' ((.rd, t) :: ts) ps (v :: vs) ms
  | ow {t ts ps v vs ms} : OutV w w' ts ps vs ms → OutV w w' ((.ow, t) :: ts) ps (v :: vs) ms
  | mt {t ts p ps v vs f ms} : ArgM w' t p v f → OutV w w' ts ps vs ms → OutV w w' ((.mt, t) :: ts) (p :: ps) (v :: vs) (f ++ ms)
  | bx {t ts p ps v vs f ms} : OutX w w' t p v f → OutV w w' ts ps vs ms → OutV w w' ((.bx, t) :: ts) (p :: ps) (v :: vs) (f ++ ms)

/-- A result that is new memory. -/
def RetV (w : World) (T : PTy) (p : PV) (v : Value) (f : List Nat) : Prop :=
  match T with
  | .agg ts => ∃ qs cs fs, p = .agg qs ∧ v = .agg cs.toArray ∧ LoD w ts qs cs fs ∧ f = fs.flatten
  | T => ∃ fs, LoD w [T] [p] [v] fs ∧ f = fs.flatten

inductive RetVs (w : World) : List PTy → List PV → List Value → List Nat → Prop
  | nil : RetVs w [] [] [] []
  | cons {t ts p ps v vs f g} : RetV w t p v f → RetVs w ts ps vs g → RetVs w (t :: ts) (p :: ps) (v :: vs) (f ++ g)

/-- A result that may share memory. -/
def RetN (w : World) (T : PTy) (p : PV) (v : Value) (f : List Nat) : Prop :=
  match T with
  | .agg ts => ∃ qs cs, p = .agg qs ∧ v = .agg cs.toArray ∧ Lv w ts qs cs f
  | T => Lv w [T] [p] [v] f

inductive RetNs (w : World) : List PTy → List PV → List Value → List Nat → Prop
  | nil : RetNs w [] [] [] []
  | cons {t ts p ps v vs f g} : RetN w t p v f → RetNs w ts ps vs g → RetNs w (t :: ts) (p :: ps) (v :: vs) (f ++ g)

def packR : List Value → Value
  | [v] => v
  | vs => .tuple vs.toArray

/-- What is so behind a call. -/
def Done (w : World) (s : FSpec) (ps : List PV) (vs : List Value) (fl ms : List Nat) (rvs : List Value) (w' : World) : Prop :=
  Fr w ms w' ∧ ((s.fresh = true ∧ ∃ fr mo, RetVs w' s.ret (s.res ps) rvs fr ∧ OutV w w' s.args (s.out ps) vs mo ∧ (fr ++ mo).Nodup ∧ ∀ b ∈ fr ++ mo, b ∈ ms ∨ w.heap.size ≤ b) ∨
    (s.fresh = false ∧ allRd s.args = true ∧ ∃ fr, RetNs w' s.ret (s.res ps) rvs fr ∧ ∀ b ∈ fr, b ∈ fl ∨ w.heap.size ≤ b))

/-- The function keeps its contract. -/
def Meets (P : Program) (f : FuncId) (s : FSpec) : Prop :=
  ∀ (w : World) (ps : List PV) (vs : List Value) (fs fl ms : List Nat), ArgsV w s.args ps vs fs fl ms → ms.Nodup → (∀ b ∈ ms, b ∉ fs) → s.pre ps →
    Calls P f vs.toArray w fun e w' => ∃ rvs, e = .returned (packR rvs) ∧ Done w s ps vs fl ms rvs w'

/-- The contracts at hand hold; so does the table of types. -/
structure EnvOk (P : Program) (E : Env) : Prop where
  ty : EnvTy P E
  fn : ∀ f cs s, findFn E.fn f cs = some s → Meets P f s ∧ ∃ fn, P.funcs[f]? = some fn ∧ fn.body.isNone = false ∧ (fn.name == "runtime.NumGoroutine") = false

section
variable {P : Program} {E : Env} {N : Nat} {w0 : World} {X F : List Nat} {S : St} {β : Nat → GV} {ϕ : Nat → List Nat} {a : Act} {w w' : World} {o : Oper} {R : RR} {A : Hp} {B : Nat}

/-- Where the blocks of a rendered argument lie. -/
structure From (A : Hp) (ϕ : Nat → List Nat) (hs f fl : List Nat) : Prop where
  all : ∀ b ∈ f, ∃ i ∈ hs, ∃ hl, lk A i = some hl ∧ hl ≠ .dead ∧ b ∈ ϕ i
  ls : ∀ b ∈ fl, ∃ i ∈ hs, ∃ hl, lk A i = some hl ∧ isL hl ∧ b ∈ ϕ i
  sub : ∀ b ∈ fl, b ∈ f

theorem From.app {hs hs' f f' fl fl' : List Nat} (h : From A ϕ hs f fl) (h' : From A ϕ hs' f' fl') : From A ϕ (hs ++ hs') (f ++ f') (fl ++ fl') := by
  refine ⟨fun b hb => ?_, fun b hb => ?_, fun b hb => ?_⟩
  · rcases List.mem_append.1 hb with hb | hb
    · obtain ⟨i, hi, e⟩ := h.all b hb; exact ⟨i, by simp [hi], e⟩
    · obtain ⟨i, hi, e⟩ := h'.all b hb; exact ⟨i, by simp [hi], e⟩
  · rcases List.mem_append.1 hb with hb | hb
    · obtain ⟨i, hi, e⟩ := h.ls b hb; exact ⟨i, by simp [hi], e⟩
    · obtain ⟨i, hi, e⟩ := h'.ls b hb; exact ⟨i, by simp [hi], e⟩
  · rcases List.mem_append.1 hb with hb | hb
    · simp [h.sub b hb]
    · simp [h'.sub b hb]

/-- resLs_sound, the handles being slices. -/
theorem resLs_isA : ∀ {ts : List PTy} {xs : List SV} {ob : Prop} {ps : List PV}, resLs A ts xs = some (ob, ps) → ∀ i ∈ slsOf xs, ∃ hl, lk A i = some hl ∧ isL hl
  | [], [], ob, ps, h, i, hi => by cases hi
  | [], x :: xs, ob, ps, h, i, hi => by cases h
  | t :: ts, [], ob, ps, h, i, hi => by cases h
  | t :: ts, x :: xs, ob, ps, h, i, hi => by
    simp only [resLs] at h
    split at h
    · rename_i o1 p o2 qs h1 h2
      cases x <;> simp only [slsOf] at hi <;> try exact resLs_isA h2 i hi
      rcases List.mem_cons.1 hi with rfl | hi
      · cases t <;> simp only [resL, reduceCtorEq] at h1
        split at h1
        · cases h1
        · rename_i hl; exact ⟨_, hl, trivial⟩
        · cases h1
      · exact resLs_isA h2 i hi
    · cases h

theorem resLs_from {ts : List PTy} {xs : List SV} {ob : Prop} {ps : List PV} (h : resLs A ts xs = some (ob, ps)) (hob : ob) (hp : Holds B X F A β ϕ w) (hk : SV.oks β xs) : ∃ f, Lv w ts ps (SV.vals β xs) f ∧ From A ϕ (slsOf xs) f f := by
  obtain ⟨f, h1, h2⟩ := resLs_sound h hob hp hk
  refine ⟨f, h1, h2, fun b hb => ?_, fun b hb => hb⟩
  obtain ⟨i, hi, hl, h3, h4, h5⟩ := h2 b hb
  obtain ⟨hl', h6, h7⟩ := resLs_isA h i hi
  rw [h3] at h6; cases h6
  exact ⟨i, hi, hl, h3, h7, h5⟩

theorem From.mono {hs hs' f fl : List Nat} (h : From A ϕ hs f fl) (hh : ∀ i ∈ hs, i ∈ hs') : From A ϕ hs' f fl :=
  ⟨fun b hb => by obtain ⟨i, hi, e⟩ := h.all b hb; exact ⟨i, hh i hi, e⟩, fun b hb => by obtain ⟨i, hi, e⟩ := h.ls b hb; exact ⟨i, hh i hi, e⟩, h.sub⟩

theorem slsOf_take {n m : Nat} {xs : List SV} : ∀ i ∈ slsOf ((xs.drop n).take m), i ∈ slsOf xs := by
  intro i hi
  have key : ∀ (l l' : List SV), (∀ x ∈ l, x ∈ l') → ∀ i ∈ slsOf l, i ∈ slsOf l' := by
    intro l
    induction l with
    | nil => intro l' _ i hi; cases hi
    | cons x l ih =>
      intro l' h i hi
      have mem : ∀ (l : List SV) j, SV.sl j ∈ l → j ∈ slsOf l := by
        intro l
        induction l with
        | nil => intro j h; cases h
        | cons y l ih2 =>
          intro j hj
          rcases List.mem_cons.1 hj with rfl | hj'
          · simp [slsOf]
          · have := ih2 j hj'
            cases y <;> simp [slsOf, this]
      cases x <;> simp only [slsOf] at hi <;> try exact ih l' (fun y hy => h y (by simp [hy])) i hi
      rcases List.mem_cons.1 hi with rfl | hi
      · exact mem l' _ (h _ (by simp))
      · exact ih l' (fun y hy => h y (by simp [hy])) i hi
  exact key _ _ (fun x hx => List.mem_of_mem_drop (List.mem_of_mem_take hx)) i hi

theorem vals_split (β : Nat → GV) (cs : List SV) (off n : Nat) : SV.vals β cs = SV.vals β (cs.take off) ++ (SV.vals β ((cs.drop off).take n) ++ SV.vals β (cs.drop (off + n))) := by
  simp only [SV.vals_map, ← List.map_append]
  rw [← List.drop_drop, List.take_append_drop, List.take_append_drop]

theorem resB_sound {T : PTy} {x : SV} {ob : Prop} {p : PV} (h : resB A T x = some (ob, p)) (hob : ob) (hp : Holds B X F A β ϕ w) (hbx : ∀ i o t cs, lk A i = some (.box o t cs) → SV.oks β cs) (hk : SV.ok β x) :
    ∃ f fl, ArgB w T p (SV.val β x) f fl ∧ From A ϕ (rdHs1 A x) f fl := by
  have leaf : ∀ (h' : resL A T x = some (ob, p)), (∀ f, Lv w [T] [p] [SV.val β x] f → ArgB w T p (SV.val β x) f f) → x.cells = [x] → rdHs1 A x = slsOf x.cells → ∃ f fl, ArgB w T p (SV.val β x) f fl ∧ From A ϕ (rdHs1 A x) f fl := by
    intro h' hA hc hr
    obtain ⟨f, h1, h2⟩ := resLs_from (ts := [T]) (xs := [x]) (ob := ob ∧ True) (ps := [p]) (by simp [resLs, h']) ⟨hob, trivial⟩ hp ⟨hk, trivial⟩
    exact ⟨f, f, hA f h1, by rw [hr, hc]; exact h2⟩
  cases T with
  | agg ts =>
    cases x with
    | agg xs =>
      simp only [resB] at h
      split at h
      · rename_i o ps hps
        simp only [Option.some.injEq, Prod.mk.injEq] at h
        obtain ⟨rfl, rfl⟩ := h
        obtain ⟨f, h1, h2⟩ := resLs_from hps hob hp hk
        exact ⟨f, f, ⟨ps, _, rfl, rfl, h1, rfl⟩, h2⟩
      · cases h
    | _ => simp [resB, resL] at h
  | box ts =>
    cases x with
    | ptr i off =>
      simp only [resB] at h
      split at h
      · rename_i o t cs hl
        split at h
        · rename_i hoff
          split at h
          · rename_i o2 ps hps
            simp only [Option.some.injEq, Prod.mk.injEq] at h
            obtain ⟨rfl, rfl⟩ := h
            obtain ⟨b, t', hb, hϕ, hblk⟩ := hp.sat _ _ hl
            have hoks : SV.oks β ((cs.drop off).take ts.length) := by
              rw [SV.oks_iff]; intro y hy
              exact SV.oks_iff.1 (hbx _ _ _ _ hl) y (List.mem_of_mem_drop (List.mem_of_mem_take hy))
            obtain ⟨f, h1, h2⟩ := resLs_from hps hob hp hoks
            refine ⟨b :: f, f, ⟨ps, _, b, t', (β i).pre ++ SV.vals β (cs.take off), SV.vals β (cs.drop (off + ts.length)) ++ (β i).post, rfl, ?_, ?_, h1, rfl⟩, ?_⟩
            · simp [SV.val, hb, SV.vals_map]; omega
            · rw [hblk]; congr 2
              rw [vals_split β cs off ts.length]; simp [List.append_assoc]
            · refine ⟨fun c hc => ?_, fun c hc => ?_, fun c hc => by simp [hc]⟩
              · rcases List.mem_cons.1 hc with rfl | hc
                · exact ⟨i, by simp [rdHs1], _, hl, by simp, by rw [hϕ]; simp⟩
                · obtain ⟨j, hj, e⟩ := h2.all c hc
                  exact ⟨j, by simp only [rdHs1, hl]; exact List.mem_cons_of_mem _ (slsOf_take j hj), e⟩
              · obtain ⟨j, hj, e⟩ := h2.ls c hc
                exact ⟨j, by simp only [rdHs1, hl]; exact List.mem_cons_of_mem _ (slsOf_take j hj), e⟩
          · cases h
        · cases h
      · cases h
    | _ => simp [resB, resL] at h
  | abx T =>
    cases x with
    | ptr i off =>
      cases off with
      | zero =>
        simp only [resB] at h
        split at h
        · rename_i ow T' es hl
          simp only [Option.some.injEq, Prod.mk.injEq] at h
          obtain ⟨rfl, rfl⟩ := h
          subst hob
          obtain ⟨h1, h2, b, t', c, hv, hϕ, hblk, hL⟩ := hp.sat _ _ hl
          refine ⟨[b], [], ⟨es, b, t', c, rfl, by simp [SV.val, hv], hblk, h1, h2, hL, rfl, rfl⟩, ?_⟩
          refine ⟨fun c hc => ?_, fun c hc => (by cases hc), fun c hc => (by cases hc)⟩
          simp only [List.mem_singleton] at hc
          subst hc
          exact ⟨i, by simp [rdHs1], _, hl, by simp, by rw [hϕ]; simp⟩
        · cases h
      | succ n => simp [resB, resL] at h
    | _ => simp [resB, resL] at h
  | fn g ts => cases x <;> simp [resB, resL] at h
  | opq => cases x <;> simp [resB, resL] at h
  | int k =>
    have h' : resL A (.int k) x = some (ob, p) := by cases x <;> simpa [resB] using h
    cases x <;> first | (simp [resL] at h'; done) | exact leaf h' (fun f hf => ⟨hf, rfl⟩) rfl rfl
  | bool =>
    have h' : resL A .bool x = some (ob, p) := by cases x <;> simpa [resB] using h
    cases x <;> first | (simp [resL] at h'; done) | exact leaf h' (fun f hf => ⟨hf, rfl⟩) rfl rfl
  | str =>
    have h' : resL A .str x = some (ob, p) := by cases x <;> simpa [resB] using h
    cases x <;> first | (simp [resL] at h'; done) | exact leaf h' (fun f hf => ⟨hf, rfl⟩) rfl rfl
  | list T =>
    have h' : resL A (.list T) x = some (ob, p) := by cases x <;> simpa [resB] using h
    cases x <;> first | (simp [resL] at h'; done) | exact leaf h' (fun f hf => ⟨hf, rfl⟩) rfl rfl

theorem resBs_sound : ∀ {ts : List PTy} {xs : List SV} {ob : Prop} {ps : List PV}, resBs A ts xs = some (ob, ps) → ob → Holds B X F A β ϕ w → (∀ i o t cs, lk A i = some (.box o t cs) → SV.oks β cs) → SV.oks β xs →
    ∃ f fl, ArgBs w ts ps (SV.vals β xs) f fl ∧ From A ϕ (rdHsL A xs) f fl
  | [], [], ob, ps, h, hob, hp, hbx, hk => by cases h; exact ⟨[], [], .nil, ⟨by simp, by simp, by simp⟩⟩
  | [], x :: xs, ob, ps, h, hob, hp, hbx, hk => by cases h
  | t :: ts, [], ob, ps, h, hob, hp, hbx, hk => by cases h
  | t :: ts, x :: xs, ob, ps, h, hob, hp, hbx, hk => by
    simp only [resBs] at h
    split at h
    · rename_i o1 p o2 qs h1 h2
      cases h
      obtain ⟨f1, l1, q1, q2⟩ := resB_sound h1 hob.1 hp hbx hk.1
      obtain ⟨f2, l2, r1, r2⟩ := resBs_sound h2 hob.2 hp hbx hk.2
      exact ⟨_, _, .cons q1 r1, q2.app r2⟩
    · cases h

theorem resT_sound {T : PTy} {x : SV} {ob : Prop} {p : PV} (h : resT A T x = some (ob, p)) (hob : ob) (hp : Holds B X F A β ϕ w) (hbx : ∀ i o t cs, lk A i = some (.box o t cs) → SV.oks β cs) (hk : SV.ok β x) :
    ∃ f fl, ArgV w T p (SV.val β x) f fl ∧ From A ϕ (rdHs A x) f fl := by
  by_cases hfn : ∃ g ts, T = .fn g ts
  · obtain ⟨g, ts, rfl⟩ := hfn
    cases x with
    | fn g' xs =>
      simp only [resT] at h
      split at h
      · rename_i o ps hps
        simp only [Option.some.injEq, Prod.mk.injEq] at h
        obtain ⟨rfl, rfl⟩ := h
        obtain ⟨rfl, hob⟩ := hob
        obtain ⟨f, fl, h1, h2⟩ := resBs_sound hps hob hp hbx hk
        exact ⟨f, fl, ⟨ps, _, rfl, rfl, h1⟩, h2⟩
      · cases h
    | _ => simp [resT, resB, resL] at h
  · have h' : resB A T x = some (ob, p) := by
      cases T <;> first | exact absurd ⟨_, _, rfl⟩ hfn | (cases x <;> simpa [resT] using h)
    have hr : rdHs A x = rdHs1 A x := by
      cases x <;> (try rfl)
      exfalso
      cases T <;> first | exact hfn ⟨_, _, rfl⟩ | (simp [resB, resL] at h')
    obtain ⟨f, fl, h1, h2⟩ := resB_sound h' hob hp hbx hk
    refine ⟨f, fl, ?_, by rw [hr]; exact h2⟩
    cases T <;> first | exact absurd ⟨_, _, rfl⟩ hfn | exact h1

end
end Go.Proofs.Ytmjjdfhpnckacab
