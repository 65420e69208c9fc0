/-
  Operations that only compute: what the symbolic side says of them is what they yield.
  Conditions: the table of types says what the program's says.
-/
import Derived.Test.YtmjjdfhpnckacabOps
namespace Go.Proofs.Ytmjjdfhpnckacab
set_option linter.unusedVariables false
section
variable {P : Program} {E : Env} {N : Nat} {w0 : World} {X F : List Nat} {S : St} {β : Nat → GV} {ϕ : Nat → List Nat} {a : Act} {w : World} {o : Oper} {R : RR}

/-- An operation that only reads. -/
def stillP (o : Op) : Prop :=
  match o with
  | .move _ => True | .pick _ _ _ => True | .load _ _ => True | .fieldAddr _ _ _ => True | .indexAddr _ _ _ => True | .index _ _ _ => True | .binOp _ _ _ _ _ => True | .unOp _ _ _ => True | .nilCheck _ => True | .extract _ _ => True | .build _ _ => True
  | .call c => match c.callee with | .builtin .len => True | .builtin .min => True | .builtin .max => True | _ => False
  | _ => False

/-- A part, a conversion: it only reads if it makes nothing new. -/
def convP (o : Op) : Prop :=
  match o with
  | .convert _ _ _ => True | .slice _ _ _ _ _ => True
  | _ => False

/-- An operation that leaves what there is. -/
def growP (o : Op) : Prop :=
  match o with
  | .move _ => True | .pick _ _ _ => True | .load _ _ => True | .fieldAddr _ _ _ => True | .indexAddr _ _ _ => True | .index _ _ _ => True | .binOp _ _ _ _ _ => True | .unOp _ _ _ => True | .nilCheck _ => True | .extract _ _ => True | .build _ _ => True
  | .assign _ => True | .box _ _ => True | .alloc _ => True | .makeSlice _ _ _ => True | .buildSlice _ _ _ => True | .convert _ _ _ => True | .slice _ _ _ _ _ => True | .makeFunc _ _ _ => True
  | .call c => match c.callee with | .builtin .len => True | .builtin .min => True | .builtin .max => True | _ => False
  | _ => False

/-- An operation that yields a value does what the symbolic side says; one that only reads yields it in later worlds too. -/
def Snd (P : Program) (w0 : World) (X F : List Nat) (S : St) (β : Nat → GV) (ϕ : Nat → List Nat) (o : Oper) (a : Act) (w : World) (R : RR) : Prop :=
  R.hy ∧ ∃ v w' β' ϕ', Runs P o a w v w' ∧ Post w0 X F S R β ϕ o.dst v w' β' ϕ' ∧ (stillP o.op ∨ (convP o.op ∧ R.n = S.n) → w' = w ∧ (execOp a.eval o).run P w = .ok (.value v) w ∧ (R.n = S.n ∨ ∀ w1, Fr w [] w1 → (execOp a.eval o).run P w1 = .ok (.value v) w1)) ∧ (growP o.op → Fr w [] w')

theorem snd_pure {hy ob : Prop} {sv : SV} (sat : Sat N w0 X F S β ϕ a w) (hh : hy) (hr : (execOp a.eval o).run P w = .ok (.value (SV.val β sv)) w) (lt : SV.lt S.n sv) (ok : SV.ok β sv) :
    Snd P w0 X F S β ϕ o a w ⟨hy, ob, sv, S.A, S.n⟩ := ⟨hh, _, w, β, ϕ, .inl hr, post_pure sat lt ok, fun _ => ⟨rfl, hr, .inl rfl⟩, fun _ => Fr.refl _ _⟩

theorem s_move {x : Operand} (ho : o.op = .move x) (hR : opRes E S true o = some R) (sat : Sat N w0 X F S β ϕ a w) (hob : R.ob) : Snd P w0 X F S β ϕ o a w R := by
  unfold opRes at hR
  rw [ho] at hR
  simp only at hR
  split at hR
  · rename_i g v hv
    cases hR
    obtain ⟨h1, h2⟩ := ev_sound hv sat
    replace h1 := h1 (hob rfl)
    obtain ⟨h3, h4⟩ := h2 (hob rfl)
    exact snd_pure sat trivial (by simp [execOp, ho, h3]) h1 h4
  · cases hR

theorem s_pick {c x y : Operand} (ho : o.op = .pick c x y) (hR : opRes E S true o = some R) (sat : Sat N w0 X F S β ϕ a w) (hob : R.ob) : Snd P w0 X F S β ϕ o a w R := by
  unfold opRes at hR
  rw [ho] at hR
  simp only at hR
  split at hR
  · rename_i gc b ga y1 gb z1 hc hx hy
    cases hR
    obtain ⟨q1, q2, q3⟩ := hob rfl
    obtain ⟨_, c2⟩ := ev_sound hc sat
    obtain ⟨_, x2⟩ := ev_sound hx sat
    obtain ⟨_, y2⟩ := ev_sound hy sat
    have hcv := (c2 q1).1
    refine snd_pure sat trivial ?_ trivial trivial
    cases b
    · have hyv := (y2 (q3 rfl)).1
      simp [execOp, ho, hcv, hyv, SV.val, asBool]
    · have hxv := (x2 (q2 rfl)).1
      simp [execOp, ho, hcv, hxv, SV.val, asBool]
  · cases hR

theorem binI_sound {op : BinOp} {k k' : IntKind} {x y : Int} {ob : Prop} {sv : SV} (h : binI op k x k' y = some (ob, sv)) (hob : ob) (hx : inR k x) (β : Nat → GV) (t : TypeId) :
    (binOp op t (.int k x) (.int k' y)).run P w = .ok (SV.val β sv) w ∧ (∀ n, SV.lt n sv) ∧ SV.ok β sv := by
  cases op <;> simp only [binI, Option.some.injEq, Prod.mk.injEq] at h <;> obtain ⟨rfl, rfl⟩ := h
  case add => subst hob; exact ⟨by simp [binOp, Op.intArith, SV.val], fun _ => trivial, inR_wrap _ _⟩
  case sub => subst hob; exact ⟨by simp [binOp, Op.intArith, SV.val], fun _ => trivial, inR_wrap _ _⟩
  case mul => subst hob; exact ⟨by simp [binOp, Op.intArith, SV.val], fun _ => trivial, inR_wrap _ _⟩
  case quo => obtain ⟨rfl, h⟩ := hob; exact ⟨by simp [binOp, Op.intDiv, SV.val, h], fun _ => trivial, inR_wrap _ _⟩
  case rem => obtain ⟨rfl, h⟩ := hob; exact ⟨by simp [binOp, Op.intDiv, SV.val, h], fun _ => trivial, inR_tmod hx h⟩
  case and => subst hob; exact ⟨by simp [binOp, Op.intBits, SV.val, andI], fun _ => trivial, inR_wrap _ _⟩
  case or => subst hob; exact ⟨by simp [binOp, Op.intBits, SV.val, orI], fun _ => trivial, inR_wrap _ _⟩
  case xor => subst hob; exact ⟨by simp [binOp, Op.intBits, SV.val, xorI], fun _ => trivial, inR_wrap _ _⟩
  case andNot => subst hob; exact ⟨by simp [binOp, Op.intBits, SV.val, andNotI], fun _ => trivial, inR_wrap _ _⟩
  case shl => exact ⟨by simp [binOp, Op.shift, SV.val, shlI, Int.not_lt.2 hob], fun _ => trivial, inR_wrap _ _⟩
  case shr => exact ⟨by simp [binOp, Op.shift, SV.val, shrI, Int.not_lt.2 hob], fun _ => trivial, inR_fdiv hx _⟩
  case eql => subst hob; exact ⟨by simp [binOp, Op.intCmp, SV.val], fun _ => trivial, trivial⟩
  case neq => subst hob; exact ⟨by simp [binOp, Op.intCmp, SV.val], fun _ => trivial, trivial⟩
  case lss => subst hob; exact ⟨by simp [binOp, Op.intCmp, SV.val], fun _ => trivial, trivial⟩
  case leq => subst hob; exact ⟨by simp [binOp, Op.intCmp, SV.val], fun _ => trivial, trivial⟩
  case gtr => subst hob; exact ⟨by simp [binOp, Op.intCmp, SV.val], fun _ => trivial, trivial⟩
  case geq => subst hob; exact ⟨by simp [binOp, Op.intCmp, SV.val], fun _ => trivial, trivial⟩

theorem toList_mk (l : List UInt8) : (ByteArray.mk l.toArray).toList = l := by
  rw [ByteArray.toList_eq]

theorem binS_sound {op : BinOp} {x y : List UInt8} {ob : Prop} {sv : SV} (h : binS op x y = some (ob, sv)) (hob : ob) (β : Nat → GV) (t : TypeId) :
    (binOp op t (.string ⟨x.toArray⟩) (.string ⟨y.toArray⟩)).run P w = .ok (SV.val β sv) w ∧ (∀ n, SV.lt n sv) ∧ SV.ok β sv := by
  cases op <;> simp only [binS, Option.some.injEq, Prod.mk.injEq, reduceCtorEq] at h <;> obtain ⟨rfl, rfl⟩ := h
  case add =>
    have h1 : ¬ (((ByteArray.mk x.toArray).size + (ByteArray.mk y.toArray).size : Nat) : Int) > IntKind.i64.max := by
      have : IntKind.i64.max = 9223372036854775807 := by decide
      rw [this]; simp [ByteArray.size, LIM] at *; omega
    refine ⟨?_, fun _ => trivial, by simpa [SV.ok] using hob⟩
    simp only [binOp, Op.stringOp, if_neg h1, SV.val, Sem.run_pure]
    have h2 : (ByteArray.mk x.toArray) ++ (ByteArray.mk y.toArray) = ⟨(x ++ y).toArray⟩ := by apply ByteArray.ext; simp
    rw [h2]
  all_goals
    refine ⟨?_, fun _ => trivial, trivial⟩
    simp [binOp, Op.stringOp, toList_mk, SV.val, bne]

theorem run_equalIn_bool (d : Nat) {t : TypeId} (ht : P.underlying t = some .bool) (x y : Bool) : (Op.equalIn (d + 1) t (.bool x) (.bool y)).run P w = .ok (x == y) w := by
  simp only [Op.equalIn, underlying, Sem.run_bind, run_program, Result.andThen_ok, ht, Sem.run_pure]
theorem run_equalIn_nil (d : Nat) {t e : TypeId} (ht : P.underlying t = some (.slice e)) (ad : Option Addr) (l c : Nat) : (Op.equalIn (d + 1) t (.slice ad l c) (.slice none 0 0)).run P w = .ok ad.isNone w := by
  simp only [Op.equalIn, underlying, Sem.run_bind, run_program, Result.andThen_ok, ht]
  cases ad <;> rfl
theorem run_equal_nil {t e : TypeId} (ht : P.underlying t = some (.slice e)) (ad : Option Addr) (l c : Nat) : (Op.equal t (.slice ad l c) (.slice none 0 0)).run P w = .ok ad.isNone w :=
  run_equalIn_nil 9999 ht ad l c
theorem run_equal_bool {t : TypeId} (ht : P.underlying t = some .bool) (x y : Bool) : (Op.equal t (.bool x) (.bool y)).run P w = .ok (x == y) w :=
  run_equalIn_bool 9999 ht x y

theorem s_binOp {op : BinOp} {tx ty : TypeId} {x y : Operand} (hT : EnvTy P E) (ho : o.op = .binOp op tx x y ty) (hR : opRes E S true o = some R) (sat : Sat N w0 X F S β ϕ a w) (hob : R.ob) : Snd P w0 X F S β ϕ o a w R := by
  unfold opRes at hR
  rw [ho] at hR
  simp only at hR
  split at hR
  · rename_i g' k x1 g'' k' y1 hx hy
    split at hR
    · rename_i ob v hv
      cases hR
      obtain ⟨_, x2⟩ := ev_sound hx sat
      obtain ⟨_, y2⟩ := ev_sound hy sat
      obtain ⟨q1, q2, q3⟩ := hob rfl
      obtain ⟨r1, r2, r3⟩ := binI_sound (P := P) (w := w) hv q3 (x2 q1).2 β tx
      refine snd_pure sat trivial ?_ (r2 _) r3
      simp [execOp, ho, (x2 q1).1, (y2 q2).1, SV.val, eqGuard, r1]
    · cases hR
  · rename_i g' x1 g'' y1 hx hy
    split at hR
    · rename_i ob v hv
      cases hR
      obtain ⟨_, x2⟩ := ev_sound hx sat
      obtain ⟨_, y2⟩ := ev_sound hy sat
      obtain ⟨q1, q2, q3⟩ := hob rfl
      obtain ⟨r1, r2, r3⟩ := binS_sound (P := P) (w := w) hv q3 β tx
      refine snd_pure sat trivial ?_ (r2 _) r3
      simp [execOp, ho, (x2 q1).1, (y2 q2).1, SV.val, eqGuard, r1]
    · cases hR
  · rename_i g' x1 g'' y1 hx hy
    obtain ⟨_, x2⟩ := ev_sound hx sat
    obtain ⟨_, y2⟩ := ev_sound hy sat
    split at hR
    · rename_i ti hti
      cases hR
      obtain ⟨q1, q2, q3⟩ := hob rfl
      have hd := (hT _ _ hti).und
      rw [q3] at hd
      refine snd_pure sat trivial ?_ trivial trivial
      simp [execOp, ho, (x2 q1).1, (y2 q2).1, SV.val, eqGuard, binOp, run_equal_bool hd]
    · rename_i ti hti
      cases hR
      obtain ⟨q1, q2, q3⟩ := hob rfl
      have hd := (hT _ _ hti).und
      rw [q3] at hd
      refine snd_pure sat trivial ?_ trivial trivial
      simp [execOp, ho, (x2 q1).1, (y2 q2).1, SV.val, eqGuard, binOp, run_equal_bool hd, bne]
    · cases hR
  · cases hR

theorem s_unOp {op : UnOp} {tx : TypeId} {x : Operand} (ho : o.op = .unOp op tx x) (hR : opRes E S true o = some R) (sat : Sat N w0 X F S β ϕ a w) (hob : R.ob) : Snd P w0 X F S β ϕ o a w R := by
  unfold opRes at hR
  rw [ho] at hR
  simp only at hR
  split at hR
  · rename_i g b hx
    cases hR
    obtain ⟨_, x2⟩ := ev_sound hx sat
    refine snd_pure sat trivial ?_ trivial trivial
    simp [execOp, ho, (x2 (hob rfl)).1, SV.val, Op.unary]
  · rename_i g k n hx
    cases hR
    obtain ⟨_, x2⟩ := ev_sound hx sat
    refine snd_pure sat trivial ?_ trivial (inR_wrap _ _)
    simp [execOp, ho, (x2 (hob rfl)).1, SV.val, Op.unary, Op.intArith]
  · rename_i g k n hx
    cases hR
    obtain ⟨_, x2⟩ := ev_sound hx sat
    refine snd_pure sat trivial ?_ trivial (inR_wrap _ _)
    simp [execOp, ho, (x2 (hob rfl)).1, SV.val, Op.unary, Op.intBits, xorI]
  · cases hR

theorem s_nilCheck {x : Operand} (ho : o.op = .nilCheck x) (hR : opRes E S true o = some R) (sat : Sat N w0 X F S β ϕ a w) (hob : R.ob) : Snd P w0 X F S β ϕ o a w R := by
  unfold opRes at hR
  rw [ho] at hR
  simp only at hR
  split at hR
  · rename_i g' h off hx
    cases hR
    obtain ⟨x1, x2⟩ := ev_sound hx sat
    replace x1 := x1 (hob rfl)
    obtain ⟨x3, b, of, hb⟩ := x2 (hob rfl)
    refine snd_pure sat trivial ?_ x1 ⟨b, of, hb⟩
    simp only [SV.val, hb] at x3 ⊢
    simp [execOp, ho, x3]
  · rename_i g' h i wd off hx
    cases hR
    obtain ⟨x1, x2⟩ := ev_sound hx sat
    replace x1 := x1 (hob rfl)
    obtain ⟨x3, b, of, hb⟩ := x2 (hob rfl)
    refine snd_pure sat trivial ?_ x1 ⟨b, of, hb⟩
    rw [val_elp hb] at x3 ⊢
    simp [execOp, ho, x3]
  · cases hR

theorem s_index {tx : TypeId} {x i : Operand} (hT : EnvTy P E) (ho : o.op = .index tx x i) (hR : opRes E S true o = some R) (sat : Sat N w0 X F S β ϕ a w) (hob : R.ob) : Snd P w0 X F S β ϕ o a w R := by
  unfold opRes at hR
  rw [ho] at hR
  simp only at hR
  split at hR
  · rename_i g' l g'' k n ti hx hi hti
    cases hR
    obtain ⟨q1, q2, q3, q4, q5⟩ := hob rfl
    have hd := (hT _ _ hti).und
    rw [q5] at hd
    obtain ⟨_, x2⟩ := ev_sound hx sat
    obtain ⟨_, i2⟩ := ev_sound hi sat
    have hlt : n.toNat < l.length := by omega
    refine snd_pure sat trivial ?_ trivial ?_
    · have h1 : (ByteArray.mk l.toArray)[n.toNat]? = some (l.getD n.toNat 0) := by
        have : (ByteArray.mk l.toArray).size = l.length := by simp [ByteArray.size]
        rw [getElem?_pos _ _ (by rw [this]; exact hlt)]
        simp [ByteArray.getElem_eq_getElem_data, hlt]
      simp [execOp, ho, (x2 q1).1, (i2 q2).1, SV.val, Instr.index, asIntOf, underlying, hd, q3, h1]
    · have := (l.getD n.toNat 0).toNat_lt
      have h1 : IntKind.u8.min = 0 := rfl
      have h2 : IntKind.u8.max = 255 := rfl
      simp only [SV.ok, inR, h1, h2]
      omega
  · cases hR

theorem s_extract {x : Operand} {i : Nat} (ho : o.op = .extract x i) (hR : opRes E S true o = some R) (sat : Sat N w0 X F S β ϕ a w) (hob : R.ob) : Snd P w0 X F S β ϕ o a w R := by
  unfold opRes at hR
  rw [ho] at hR
  simp only at hR
  split at hR
  · rename_i g' xs hx
    split at hR
    · rename_i v hv
      cases hR
      obtain ⟨x1, x2⟩ := ev_sound hx sat
      replace x1 := x1 (hob rfl)
      obtain ⟨x3, x4⟩ := x2 (hob rfl)
      have hm : v ∈ xs := List.mem_of_getElem? hv
      refine snd_pure sat trivial ?_ (SV.lts_iff.1 x1 v hm) (SV.oks_iff.1 x4 v hm)
      simp [execOp, ho, x3, SV.val, Instr.extract, SV.vals_map, hv]
    · cases hR
  · cases hR

theorem s_makeFunc {fn : Fn} {xs ys : Array Operand} (ho : o.op = .makeFunc fn xs ys) (hR : opRes E S true o = some R) (sat : Sat N w0 X F S β ϕ a w) (hob : R.ob) : Snd P w0 X F S β ϕ o a w R := by
  unfold opRes at hR
  rw [ho] at hR
  cases fn
  case func f =>
    dsimp only at hR
    split at hR
    · rename_i o1 o2 vs h1 h2
      cases hR
      obtain ⟨b1, b2⟩ := evs_sound h2 sat
      replace b1 := b1 rfl (hob rfl)
      obtain ⟨b3, b4⟩ := b2 rfl (hob rfl)
      have h0 : xs = #[] := by
        cases hx : xs.toList with
        | nil => exact Array.toList_eq_nil_iff.1 hx
        | cons y r =>
          rw [hx] at h1
          simp only [evs] at h1
          split at h1 <;> simp at h1
      refine snd_pure sat trivial ?_ b1 b4
      have h3 : Array.map a.eval ys = (SV.vals β vs).toArray := by
        rw [← b3]; apply Array.ext'; simp
      simp [execOp, ho, Instr.makeFunc, SV.val, h0, h3]
    · cases hR
  all_goals (dsimp only at hR; cases hR)

theorem run_fieldAt {t : TypeId} {f : Nat} (hT : EnvTy P E) {ti : TI} {fo ft b off : Nat} (hti : lk E.ty t = some ti) (hf : ti.flds[f]? = some (fo, ft)) (hs : (lk E.ty ft).isSome = true) :
    (Instr.fieldAt t (.pointer (some ⟨b, off, none⟩)) f).run P w = .ok (.pointer (some ⟨b, off + fo, none⟩)) w := by
  have add : ∀ (b off n : Nat), (⟨b, off, none⟩ : Addr).add n = ⟨b, off + n, none⟩ := by
    intro b off n; unfold Addr.add; split <;> simp_all
  obtain ⟨fs, fd, hd, hfd, rfl, rfl⟩ := (hT _ _ hti).flds _ _ _ hf
  have hu := (hT _ _ hti).und
  rw [hd] at hu
  obtain ⟨tf, htf⟩ := Option.isSome_iff_exists.1 hs
  have hsz := run_size (hT _ _ htf)
  have hp := (hT _ _ htf).pos
  simp [Instr.fieldAt, underlying, hu, hfd, Instr.sureAddr, fieldPlace, hsz, Nat.pos_iff_ne_zero.1 hp, add]

theorem s_fieldAddr {t : TypeId} {x : Operand} {f : Nat} (hT : EnvTy P E) (ho : o.op = .fieldAddr t x f) (hR : opRes E S true o = some R) (sat : Sat N w0 X F S β ϕ a w) (hob : R.ob) : Snd P w0 X F S β ϕ o a w R := by
  unfold opRes at hR
  rw [ho] at hR
  simp only at hR
  have add : ∀ (b off n : Nat), (⟨b, off, none⟩ : Addr).add n = ⟨b, off + n, none⟩ := by
    intro b off n; unfold Addr.add; split <;> simp_all
  have key : ∀ {ti : TI} {fo ft : Nat} {b off : Nat}, lk E.ty t = some ti → ti.flds[f]? = some (fo, ft) → (lk E.ty ft).isSome = true →
      (Instr.fieldAt t (.pointer (some ⟨b, off, none⟩)) f).run P w = .ok (.pointer (some ⟨b, off + fo, none⟩)) w := by
    intro ti fo ft b off hti hf hs
    obtain ⟨fs, fd, hd, hfd, rfl, rfl⟩ := (hT _ _ hti).flds _ _ _ hf
    have hu := (hT _ _ hti).und
    rw [hd] at hu
    obtain ⟨tf, htf⟩ := Option.isSome_iff_exists.1 hs
    have hsz := run_size (hT _ _ htf)
    have hp := (hT _ _ htf).pos
    simp [Instr.fieldAt, underlying, hu, hfd, Instr.sureAddr, fieldPlace, hsz, Nat.pos_iff_ne_zero.1 hp, add]
  split at hR
  · rename_i g' h off ti hx hti
    split at hR
    · rename_i fo ft hf
      cases hR
      obtain ⟨x1, x2⟩ := ev_sound hx sat
      obtain ⟨q1, q2⟩ := hob
      replace x1 := x1 (q1 rfl)
      obtain ⟨x3, b, of, hb⟩ := x2 (q1 rfl)
      refine snd_pure sat trivial ?_ x1 ⟨b, of, hb⟩
      simp only [SV.val, hb] at x3 ⊢
      simp [execOp, ho, x3, key hti hf q2, Nat.add_assoc]
    · cases hR
  · rename_i g' h i wd off ti hx hti
    split at hR
    · rename_i fo ft hf
      cases hR
      obtain ⟨x1, x2⟩ := ev_sound hx sat
      obtain ⟨q1, q2⟩ := hob
      replace x1 := x1 (q1 rfl)
      obtain ⟨x3, b, of, hb⟩ := x2 (q1 rfl)
      refine snd_pure sat trivial ?_ x1 ⟨b, of, hb⟩
      rw [val_elp hb] at x3 ⊢
      simp [execOp, ho, x3, key hti hf q2, Nat.add_assoc]
    · cases hR
  · cases hR

theorem lv_sl {v : Value} {T : PTy} {es : List PV} {f : List Nat} (h : Lv w [.list T] [.list es] [v] f) (hn : 0 < es.length) :
    ∃ b off cap c t fr cs f1, v = .slice (some ⟨b, off, none⟩) es.length cap ∧ f = b :: f1 ∧ w.heap[b]? = some (.cells c t fr) ∧ (∀ e ∈ es, Shp T e) ∧ es.length ≤ LIM ∧
      Lv w (flatT T es.length) (flatP es) cs f1 ∧ (c.toList.drop off).take cs.length = cs := by
  cases h with
  | empty h => simp at hn
  | list hb hs hl hv hc ht =>
    obtain ⟨_, rfl⟩ := ht.nil_inv
    exact ⟨_, _, _, _, _, _, _, _, rfl, by simp, hb, hs, hl.1, hv, hc⟩

/-- A live slice handle reads as its contents. -/
theorem hp_lv {h : Nat} {w' : Own} {T : PTy} {es : List PV} {p : Pth} {B : Nat} {A : Hp} (hp : Holds B X F A β ϕ w) (hl : lk A h = some (.arr w' T es p)) (hc : ∀ k, w' ≠ .cs k) : Lv w [.list T] [.list es] [(β h).v] (ϕ h) := by
  have := hp.sat _ _ hl
  cases w' with
  | vw r => exact this
  | sh => exact OwnS.lv this
  | dp => exact OwnD.lv this
  | cs k => exact absurd rfl (hc k)

theorem hl_lv {h : Nat} {w' : Own} {T : PTy} {es : List PV} {p : Pth} (sat : Sat N w0 X F S β ϕ a w) (hl : lk S.A h = some (.arr w' T es p)) (hc : ∀ k, w' ≠ .cs k) : Lv w [.list T] [.list es] [(β h).v] (ϕ h) := hp_lv sat.hp hl hc

theorem lv_len {v : Value} {T : PTy} {es : List PV} {f : List Nat} (h : Lv w [.list T] [.list es] [v] f) : es.length ≤ LIM ∧ ∃ c a, v = .slice a es.length c ∧ es.length ≤ c := by
  cases h with
  | empty h => exact ⟨Nat.zero_le _, _, _, rfl, Nat.zero_le _⟩
  | list hb hs hl hv hc ht => exact ⟨hl.1, _, _, rfl, hl.2⟩

theorem arr_addr {h : Nat} {w' : Own} {T : PTy} {es : List PV} {p : Pth} {B : Nat} {A : Hp} (hp : Holds B X F A β ϕ w) (hl : lk A h = some (.arr w' T es p)) (hn : 0 < es.length) : ∃ b off cap, (β h).v = .slice (some ⟨b, off, none⟩) es.length cap := by
  by_cases hc : ∃ k, w' = .cs k
  · obtain ⟨k, rfl⟩ := hc
    rcases hp.sat _ _ hl with ⟨rfl, _⟩ | ⟨b, f1, c1, c2, _, ⟨⟨o, cap, c, t, fr, h1, _⟩, _⟩, _⟩
    · simp at hn
    · exact ⟨_, _, _, h1⟩
  · obtain ⟨b, off, cap, c, t', fr, cs, f1, hv, _⟩ := lv_sl (hp_lv hp hl fun k e => hc ⟨k, e⟩) hn
    exact ⟨_, _, _, hv⟩

theorem s_indexAddr {t : TypeId} {x i : Operand} (hT : EnvTy P E) (ho : o.op = .indexAddr t x i) (hR : opRes E S true o = some R) (sat : Sat N w0 X F S β ϕ a w) (hob : R.ob) : Snd P w0 X F S β ϕ o a w R := by
  unfold opRes at hR
  rw [ho] at hR
  simp only at hR
  split at hR
  · rename_i g' h g'' k n ti hx hi hti
    split at hR
    · rename_i w' T es p te hl hte
      cases hR
      obtain ⟨x1, x2⟩ := ev_sound hx sat
      obtain ⟨_, i2⟩ := ev_sound hi sat
      obtain ⟨q1, q2, q3, q4, q5⟩ := hob rfl
      obtain ⟨b, off, cap, hv⟩ := arr_addr sat.hp hl (by omega)
      have ht1 := (hT _ _ hti).und
      rw [q5] at ht1
      have hsz := run_size (hT _ _ hte)
      have add : ∀ (b off n : Nat), (⟨b, off, none⟩ : Addr).add n = ⟨b, off + n, none⟩ := by
        intro b off n; unfold Addr.add; split <;> simp_all
      refine snd_pure sat trivial ?_ (x1 q1) ⟨b, off, by rw [hv]; rfl⟩
      simp only [SV.val, hv]
      simp [execOp, ho, (x2 q1).1, (i2 q2).1, SV.val, hv, Instr.indexAt, asIntOf, underlying, ht1, q3, q4, hsz, add]
    · cases hR
  · cases hR

end
end Go.Proofs.Ytmjjdfhpnckacab
