/-
  Each operation does in memory what the symbolic side says.
  Conditions: the table of types says what the program's says; the contracts of the called functions hold.
-/
import Derived.Test.YtmjjdfhpnckacabHeap
namespace Go.Proofs.Ytmjjdfhpnckacab
set_option linter.unusedVariables false

def zeroV : PTy → Value
  | .int k => .int k 0 | .bool => .bool false | .str => .string ⟨#[]⟩ | .list _ => .slice none 0 0 | .fn _ _ => .nilFunc | _ => .pointer none

/-- The table's row says what the program's types are. -/
structure TIok (P : Program) (t : TypeId) (ti : TI) : Prop where
  und : P.underlying t = some ti.d
  info : ∃ i, P.info? t = some i ∧ i.size = ti.sz ∧ i.bytes = ti.bytes ∧ ∃ z : Value, i.zero = some z ∧ z.cells = (ti.leaves.map zeroV).toArray
  agg : ti.agg = (match ti.d with | .struct _ | .array _ _ => true | _ => false)
  flds : ∀ (f off ft : Nat), ti.flds[f]? = some (off, ft) → ∃ (fs : Array Field) (fd : Field), ti.d = .struct fs ∧ fs[f]? = some fd ∧ fd.offset = off ∧ fd.type = ft
  fsz : ∀ (fs : Array Field), ti.d = .struct fs → ∀ f ∈ fs, ∃ i, P.info? f.type = some i
  pos : 0 < ti.sz
  bpos : 0 < ti.bytes
  one : ti.agg = false → ti.sz = 1
  lf : ∀ t ∈ ti.leaves, t.leaves = [t]
  nf : ∀ t ∈ ti.leaves, ∀ f l, t ≠ .fn f l

def EnvTy (P : Program) (E : Env) : Prop := ∀ t ti, lk E.ty t = some ti → TIok P t ti

section
variable {P : Program} {E : Env} {N : Nat} {w0 : World} {X F : List Nat} {S : St} {β : Nat → GV} {ϕ : Nat → List Nat} {a : Act} {w : World}

theorem run_und {t : TypeId} {ti : TI} (h : TIok P t ti) (w : World) : (underlying t).run P w = .ok ti.d w := by
  simp [underlying, h.und]
theorem run_size {t : TypeId} {ti : TI} (h : TIok P t ti) (w : World) : (sizeOf t).run P w = .ok ti.sz w := by
  obtain ⟨i, hi, hs, _⟩ := h.info
  simp [sizeOf, typeInfo, hi, hs]
theorem run_isAgg {t : TypeId} {ti : TI} (h : TIok P t ti) (w : World) : (isAgg t).run P w = .ok ti.agg w := by
  simp only [isAgg, Sem.run_bind, run_und h, Result.andThen_ok, h.agg]
  cases ti.d <;> rfl

theorem ofConst1_sound {c : Value} {x : SV} (h : ofConst1 c = some x) (β : Nat → GV) : SV.val β x = c ∧ (∀ n, SV.lt n x) ∧ SV.ok β x ∧ x.leafB = true := by
  unfold ofConst1 at h
  split at h
  · split at h
    · cases h; exact ⟨rfl, fun _ => trivial, by assumption, rfl⟩
    · cases h
  · cases h; exact ⟨rfl, fun _ => trivial, trivial, rfl⟩
  · split at h
    · cases h
      refine ⟨?_, fun _ => trivial, by assumption, rfl⟩
      rename_i s _
      cases s; simp [SV.val]
    · cases h
  · cases h; exact ⟨rfl, fun _ => trivial, trivial, rfl⟩
  · cases h; exact ⟨rfl, fun _ => trivial, trivial, rfl⟩
  · cases h

theorem ofConsts_sound : ∀ {cs : List Value} {xs : List SV}, ofConsts cs = some xs → ∀ (β : Nat → GV), SV.vals β xs = cs ∧ (∀ n, SV.lts n xs) ∧ SV.oks β xs
  | [], xs, h, β => by cases h; exact ⟨rfl, fun _ => trivial, trivial⟩
  | c :: cs, xs, h, β => by
    simp only [ofConsts] at h
    split at h
    · rename_i x ys hx hy
      cases h
      obtain ⟨h1, h2, h3, _⟩ := ofConst1_sound hx β
      obtain ⟨k1, k2, k3⟩ := ofConsts_sound hy β
      exact ⟨by simp [SV.vals, h1, k1], fun n => ⟨h2 n, k2 n⟩, h3, k3⟩
    · cases h

theorem ofConst_sound {c : Value} {x : SV} (h : ofConst c = some x) (β : Nat → GV) : SV.val β x = c ∧ (∀ n, SV.lt n x) ∧ SV.ok β x := by
  unfold ofConst at h
  split at h
  · split at h
    · rename_i xs hx
      cases h
      obtain ⟨h1, h2, h3⟩ := ofConsts_sound hx β
      exact ⟨by simp [SV.val, h1], fun n => h2 n, h3⟩
    · cases h
  · obtain ⟨h1, h2, h3, _⟩ := ofConst1_sound h β
    exact ⟨h1, h2, h3⟩

theorem slot_sound {t : Nat} {g : Bool} {v : SV} (h : S.slot t = some (g, v)) (sat : Sat N w0 X F S β ϕ a w) :
    (g = true → SV.lt S.n v) ∧ (g = true → a.tmps[t]? = some (SV.val β v) ∧ SV.ok β v) ∧ (g = false → a.tmps[t]? = some undef) := by
  unfold St.slot at h
  split at h
  · rename_i x hx
    cases h
    exact sat.lt t g v hx
  · split at h
    · rename_i u hu
      cases h
      obtain ⟨h1, h2, h3⟩ := sat.lp t v hu
      exact ⟨fun _ => h2, fun _ => ⟨h1, h3⟩, fun h => by cases h⟩
    · cases h

theorem ev_sound {x : Operand} {g : Bool} {v : SV} (h : S.ev x = some (g, v)) (sat : Sat N w0 X F S β ϕ a w) :
    (g = true → SV.lt S.n v) ∧ (g = true → a.eval x = SV.val β v ∧ SV.ok β v) := by
  unfold St.ev at h
  split at h
  · obtain ⟨h1, h2, _⟩ := slot_sound h sat
    refine ⟨h1, fun hg => ⟨?_, (h2 hg).2⟩⟩
    simp [Act.eval, (h2 hg).1]
  · split at h
    · rename_i c x hx
      cases h
      obtain ⟨h1, h2, h3⟩ := ofConst_sound hx β
      exact ⟨fun _ => h2 _, fun _ => ⟨h1.symm, h3⟩⟩
    · cases h
  · cases h
    exact ⟨fun _ => trivial, fun _ => ⟨rfl, trivial⟩⟩
  · cases h

theorem evs_sound {g : Bool} : ∀ {xs : List Operand} {o : Prop} {vs : List SV}, evs S g xs = some (o, vs) → Sat N w0 X F S β ϕ a w →
    (g = true → o → SV.lts S.n vs) ∧ (g = true → o → xs.map a.eval = SV.vals β vs ∧ SV.oks β vs)
  | [], o, vs, h, sat => by cases h; exact ⟨fun _ _ => trivial, fun _ _ => ⟨rfl, trivial⟩⟩
  | x :: xs, o, vs, h, sat => by
    simp only [evs] at h
    split at h
    · rename_i g' v o' vs' h1 h2
      cases h
      obtain ⟨a1, a2⟩ := ev_sound h1 sat
      obtain ⟨b1, b2⟩ := evs_sound h2 sat
      refine ⟨fun hg ho => ⟨a1 (ho.1 hg), b1 hg ho.2⟩, fun hg ho => ?_⟩
      obtain ⟨c1, c2⟩ := a2 (ho.1 hg)
      obtain ⟨d1, d2⟩ := b2 hg ho.2
      exact ⟨by simp [SV.vals, c1, d1], c2, d2⟩
    · cases h

/-- What is known behind an operation. -/
structure Post (w0 : World) (X F : List Nat) (S : St) (R : RR) (β : Nat → GV) (ϕ : Nat → List Nat) (d : Option Nat) (v : Value) (w' : World) (β' : Nat → GV) (ϕ' : Nat → List Nat) : Prop where
  v : d ≠ none → v = SV.val β' R.sv
  bt : ∀ h, h < S.n → β' h = β h
  hp : Holds w0.heap.size X F R.A β' ϕ' w'
  hb : Bd R.n β' R.A
  lt : SV.lt R.n R.sv
  ok : SV.ok β' R.sv
  n : S.n ≤ R.n
  fr : Fr w0 X w'

/-- An operation that yields a value. -/
def Runs (P : Program) (o : Oper) (a : Act) (w : World) (v : Value) (w' : World) : Prop :=
  (execOp a.eval o).run P w = .ok (.value v) w' ∨ ((execOp a.eval o).run P w = .ok .skip w' ∧ v = undef)

theorem Runs.wp {o : Oper} {v : Value} {w' : World} (h : Runs P o a w v w') {next : Act → World → Prop} {Q : Exit → Act → World → Prop} (hn : next (a.put o.dst v) w') : o.wp P a w next Q := by
  unfold Oper.wp
  rcases h with h | ⟨h, rfl⟩
  · rw [h]; exact hn
  · rw [h]; exact hn

theorem post_pure {hy ob : Prop} {sv : SV} {d : Option Nat} (sat : Sat N w0 X F S β ϕ a w) (lt : SV.lt S.n sv) (ok : SV.ok β sv) : Post w0 X F S ⟨hy, ob, sv, S.A, S.n⟩ β ϕ d (SV.val β sv) w β ϕ :=
  ⟨fun _ => rfl, fun _ _ => rfl, sat.hp, sat.hb, lt, ok, Nat.le_refl _, sat.fr⟩

theorem inR_wrap (k : IntKind) (n : Int) : inR k (k.wrap n) := by
  unfold inR IntKind.wrap IntKind.min IntKind.max
  cases k <;> simp [IntKind.signed, IntKind.bits] <;> (try split) <;> omega

theorem inR_len {n : Nat} (h : n ≤ LIM) : inR .i64 n := by
  unfold inR IntKind.min IntKind.max LIM at *
  simp [IntKind.signed, IntKind.bits]; omega

theorem inR_tmod {k : IntKind} {x y : Int} (h : inR k x) (hy : y ≠ 0) : inR k (x.tmod y) := by
  unfold inR at *
  have h0 : k.min ≤ 0 ∧ 0 ≤ k.max := by cases k <;> decide
  have h1 := Int.natAbs_tmod x y
  have h2 := Nat.mod_le x.natAbs y.natAbs
  rcases Int.le_total 0 x with hx | hx
  · have h3 : 0 ≤ x.tmod y := Int.tmod_nonneg _ hx
    omega
  · have h4 : x.tmod y = - ((-x).tmod y) := by rw [Int.neg_tmod]; omega
    have h3 : 0 ≤ (-x).tmod y := Int.tmod_nonneg _ (by omega)
    omega

theorem inR_fdiv {k : IntKind} {x : Int} (h : inR k x) (n : Nat) : inR k (x.fdiv (2 ^ n)) := by
  unfold inR at *
  have h0 : k.min ≤ 0 ∧ 0 ≤ k.max := by cases k <;> decide
  have hp : (0 : Int) < 2 ^ n := Int.pow_pos (by decide)
  rw [Int.fdiv_eq_ediv_of_nonneg _ (by omega)]
  rcases Int.le_total 0 x with hx | hx
  · have h1 : 0 ≤ x / 2 ^ n := Int.ediv_nonneg hx (by omega)
    have h2 : x / 2 ^ n ≤ x := Int.ediv_le_self _ hx
    omega
  · have h1 : x / 2 ^ n ≤ 0 := by
      have := Int.ediv_le_ediv hp hx
      simpa using this
    have h2 : x ≤ x / 2 ^ n := by
      rw [Int.le_ediv_iff_mul_le hp]
      have : x * 2 ^ n ≤ x * 1 := Int.mul_le_mul_of_nonpos_left hx (by omega)
      omega
    omega

end
end Go.Proofs.Ytmjjdfhpnckacab
