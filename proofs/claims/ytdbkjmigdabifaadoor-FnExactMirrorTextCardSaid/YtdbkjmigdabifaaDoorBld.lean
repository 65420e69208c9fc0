/-
  Builders of strings in the conditions of code.
  Conditions: none.
-/
import Derived.Test.YtdbkjmigdabifaaDoorBr
namespace Go.Proofs.YtdbkjmigdabifaaDoor
set_option linter.unusedVariables false
set_option maxRecDepth 100000

/-- A slot of which nothing is said. -/
def freeD (N : Nat) (S : St) : Option Nat → Prop
  | none => True
  | some t => t < N ∧ (lk S.Lp t).isNone = true ∧ (lk S.Lt t).isNone = true

def bfWS : Option Nat := some 114
def bfWB : Option Nat := none
def bfWR : Option Nat := some 57
def bfLen : Option Nat := some 115
/-- A rune's bytes. -/
def runeB (n : Int) : List UInt8 := (runeL n).map fun z => UInt8.ofNat z.toNat

/-- What a builder's operation makes of a state. -/
def bRes (N : Nat) (keep : List Nat) (S : St) (o : Oper) (K : St → Prop) : Prop :=
  match o.op with
  | .alloc t => t = 70 ∧ o.guard = none ∧ dstOk N keep true o.dst ∧ K (putS keep S true o.dst ⟨True, True, .ptr S.n 0, (S.n, .bld 70 5 []) :: S.A, S.n + 1⟩)
  | .call c => (match c.callee, c.args.toList with
    | .value f, [x, y] => (match S.ev f, S.ev x, S.ev y with
      | some (true, .fn g []), some (true, .ptr h 0), some (true, .str s) => (match lk S.A h with
        | some (.bld T 5 l) => bfWS = some g ∧ T = 70 ∧ l.length + s.length ≤ LIM ∧ o.guard = none ∧ freeD N S o.dst ∧ K { S with A := set1 (strike [h] S.A) h (.bld T 5 (l ++ s)) }
        | _ => False)
      | some (true, .fn g []), some (true, .ptr h 0), some (true, .int .u8 n) => (match lk S.A h with
        | some (.bld T 5 l) => bfWB = some g ∧ T = 70 ∧ l.length + 1 ≤ LIM ∧ o.guard = none ∧ freeD N S o.dst ∧ K { S with A := set1 (strike [h] S.A) h (.bld T 5 (l ++ [UInt8.ofNat n.toNat])) }
        | _ => False)
      | some (true, .fn g []), some (true, .ptr h 0), some (true, .int .i32 n) => (match lk S.A h with
        | some (.bld T 5 l) => bfWR = some g ∧ T = 70 ∧ (0 ≤ n ∧ n ≤ 1114111 ∧ (n < 55296 ∨ 57343 < n)) ∧ l.length + 4 ≤ LIM ∧ o.guard = none ∧ freeD N S o.dst ∧ K { S with A := set1 (strike [h] S.A) h (.bld T 5 (l ++ runeB n)) }
        | _ => False)
      | _, _, _ => False)
    | .value f, [x] => (match S.ev f, S.ev x with
      | some (true, .fn g []), some (true, .ptr h 0) => (match lk S.A h with
        | some (.bld T 5 l) => T = 70 ∧ o.guard = none ∧ dstOk N keep true o.dst ∧
          ((bfLen = some g ∧ K (putS keep S true o.dst ⟨True, True, .int .i64 l.length, S.A, S.n⟩)) ∨
           (g = 60 ∧ l ≠ [] ∧ l.length ≤ LIM ∧ K (putS keep S true o.dst ⟨True, True, .str l, strike [h] S.A, S.n⟩)))
        | _ => False)
      | _, _ => False)
    | _, _ => False)
  | _ => False

structure BRules (N : Nat) (keep : List Nat) (W : List KI → St → Prop) : Prop where
  bld : ∀ (all l : List Oper) (o : Oper) (k : List KI) (S : St), bRes N keep S o (fun S' => W (.run all l :: k) S') → W (.run all (o :: l) :: k) S

section
variable {C : Cx} {S : St} {a : Act} {w w' : World} {o : Oper} {all l : List Oper} {k : List KI}

theorem at_drop {β : Nat → GV} {ϕ ϕ' : Nat → List Nat} {A' : Hp} {v : Value} (kp : Kp C.keep S) (hn : C.n0 ≤ S.n) (sat : Sat C.N C.w0 C.X C.F S β ϕ a w) (h0 : ∀ h, h < C.n0 → β h = C.β0 h)
    (hd : freeD C.N S o.dst) (hp : Holds C.w0.heap.size C.X C.F A' β ϕ' w') (hb : Bd S.n β A') (hf : Fr C.w0 C.X w') : At C { S with A := A' } (a.put o.dst v) w' := by
  cases hdst : o.dst with
  | none => exact ⟨kp, hn, β, ϕ', ⟨sat.df, sat.sz, sat.lp, sat.lt, hp, hb, hf⟩, h0⟩
  | some d =>
    rw [hdst] at hd
    obtain ⟨_, hd1, hd2⟩ := hd
    have hoth : ∀ t, d ≠ t → (a.put (some d) v).tmps[t]? = a.tmps[t]? := fun t ht => by
      simp only [Act.put]; exact Array.getElem?_setIfInBounds_ne ht
    refine ⟨kp, hn, β, ϕ', ⟨sat.df, by simp only [Act.put, Array.size_setIfInBounds]; exact sat.sz, ?_, ?_, hp, hb, hf⟩, h0⟩
    · intro t x ht
      have : d ≠ t := fun e => by subst e; rw [ht] at hd1; cases hd1
      rw [hoth t this]; exact sat.lp t x ht
    · intro t g x ht
      have : d ≠ t := fun e => by subst e; rw [ht] at hd2; cases hd2
      rw [hoth t this]; exact sat.lt t g x ht

/-- A builder's contents are changed. -/
theorem bld_redo {β : Nat → GV} {ϕ : Nat → List Nat} {N : Nat} {w0 : World} {X F : List Nat} {S : St} {h T e b : Nat} {l l' : List UInt8} {f' : List Nat} (sat : Sat N w0 X F S β ϕ a w) (hl : lk S.A h = some (.bld T e l)) (hv : (β h).v = .pointer (some ⟨b, 0, none⟩))
    (hB : BldAt T e b l' w' f') (hF : Fr w (ϕ h) w') (hf : ∀ x ∈ f', x ∈ ϕ h ∨ w.heap.size ≤ x) :
    ∃ ϕ', Holds w0.heap.size X F (set1 (strike [h] S.A) h (.bld T e l')) β ϕ' w' ∧ Bd S.n β (set1 (strike [h] S.A) h (.bld T e l')) ∧ Fr w0 X w' := by
  have hown : ∀ b ∈ ϕ h, b ∈ X ∨ w0.heap.size ≤ b := fun b hb => sat.hp.own h _ hl b hb
  have hall : ∀ b ∈ ϕ h, b ∈ F ∨ w0.heap.size ≤ b := fun b hb => sat.hp.all h _ hl trivial b hb
  have hfr : Fr w0 X w' := sat.fr.trans hF (fun x hx => hx) (fun b hb => hown b hb)
  have hst := sat.hp.struck [h]
  have hap : Apart (strike [h] S.A) ϕ (ϕ h) := strike_apart sat.hp fun b hb => ⟨h, by simp, _, hl, hb⟩
  have hst' : Holds w0.heap.size X F (strike [h] S.A) β ϕ w' := hst.world fun i hl hi hd b hb => hF.block b (hst.inb hi hd b hb) (hap i hl hi hd b hb)
  have hap2 : Apart (strike [h] S.A) ϕ f' := by
    intro i hl hi hd b hb hm
    rcases hf b hm with h1 | h1
    · exact hap i hl hi hd b hb h1
    · have := hst.inb hi hd b hb; omega
  have hge : ∀ b ∈ f', (b ∈ X ∨ w0.heap.size ≤ b) ∧ (b ∈ F ∨ w0.heap.size ≤ b) := by
    intro b hb
    rcases hf b hb with h1 | h1
    · exact ⟨hown b h1, hall b h1⟩
    · exact ⟨.inr (Nat.le_trans sat.fr.size h1), .inr (Nat.le_trans sat.fr.size h1)⟩
  have hput := hst'.put (A' := set1 (strike [h] S.A) h (.bld T e l')) (n := h) (hl0 := .bld T e l') (f := f') (fun j => lk_set1' _ _ _) (fun hl' hi => strike_dead (by simp) hi)
    ⟨b, hv, hB⟩ (fun c hc => (hge c hc).1) (fun _ c hc => (hge c hc).2) trivial hap2
    (fun i hl' hi _ c hc hm => by
      by_cases hdd : hl' = .dead
      · subst hdd; simp [owned] at hc
      · exact hap2 i hl' hi hdd c (owned_sub c hc) hm) trivial (fun _ _ _ e => by cases e) (by simp [roots])
  exact ⟨_, hput, bd_put (strike_bd sat.hb [h]) (fun j => lk_set1' _ _ _) (sat.hb _ _ hl).1 trivial, hfr⟩

set_option maxHeartbeats 1000000 in
theorem brules_wp (hC : C.Ok) (hP : C.P = Tryd.prog) : BRules C.N C.keep (WP C) := by
  refine ⟨fun all l o k S h a w hat => ?_⟩
  obtain ⟨kp, hn, β, ϕ, sat, h0⟩ := hat
  show wpList C.P all.toArray (xt C k) (o :: l) a w
  unfold wpList
  unfold bRes at h
  have hgd : o.guard = none → Region.wanted o (yielded all.toArray a.tmps) = true := fun hg => guard_sound (g := true) (by rw [hg]; rfl) sat
  have call : ∀ {c : Call} {f : Operand} {g : Nat} {vs : List SV} {fn : Func} {Q' : Value → World → Prop} {h : Nat} (ho : o.op = .call c) (hc : c.callee = .value f) (hf : S.ev f = some (true, .fn g [])) (hvs : c.args.toList.map a.eval = SV.vals β vs) (hfn : C.P.funcs[g]? = some fn) (hbd : fn.body.isNone = false) (hnm : (fn.name == "runtime.NumGoroutine") = false)
      (hcall : Calls C.P g (SV.vals β vs).toArray w fun e w' => ∃ v, e = .returned v ∧ Q' v w') (next : Act → World → Prop) (Q : Exit → Act → World → Prop), (∀ v w', Q' v w' → next (a.put o.dst v) w') → o.wp C.P a w next Q := by
    intro c f g vs fn Q' _ ho hc hf hvs hfn hbd hnm hcall next Q hnext
    obtain ⟨_, f2⟩ := ev_sound hf sat
    obtain ⟨f3, _⟩ := f2 rfl
    have hrun := call_enter (P := C.P) (w := w) (ob := True) ho hc f3 hvs hfn hbd hnm
    rw [List.append_nil] at hrun
    unfold Oper.wp
    rw [hrun, Oper.upon_enter]
    refine hcall.mono fun e w' he => ?_
    obtain ⟨v, rfl, hq⟩ := he
    exact hnext v w' hq
  have ptr : ∀ {h T : Nat} {l : List UInt8}, lk S.A h = some (.bld T 5 l) → ∃ b, (β h).v = .pointer (some ⟨b, 0, none⟩) ∧ BldAt T 5 b l w (ϕ h) ∧ SV.val β (.ptr h 0) = .pointer (some ⟨b, 0, none⟩) := by
    intro h T l hl
    obtain ⟨b, h1, h2⟩ := sat.hp.sat _ _ hl
    exact ⟨b, h1, h2, by simp [SV.val, h1]⟩
  split at h
  · rename_i t ho
    obtain ⟨rfl, hg, hd, hk⟩ := h
    rw [if_pos (hgd hg)]
    have hz := Tryd.zeroValue70 w
    have hadd := sat.hp.addNew (n := S.n) (hl0 := .bld 70 5 []) (g := ⟨.pointer (some ⟨w.heap.size, 0, none⟩), [], []⟩) (f := [w.heap.size]) (w' := w.alloc (.cells #[.pointer none, .slice none 0 0] 70)) sat.hb sat.fr (fun b hb => alloc_old w _ hb) rfl
      ⟨w.heap.size, rfl, .pointer none, .slice none 0 0, .inl rfl, heap_alloc_new w _, World.ownsRow_nil _ _ _ _, by simp [Value.ownBlock], by simp [Value.ownBlock]⟩ (by simp) trivial rfl trivial
    refine .inl (Runs.wp (.inl ?_) (hk _ _ (at_taken (v := .pointer (some ⟨w.heap.size, 0, none⟩)) kp hn sat h0 hd ⟨fun _ => ?_, fun h hh => upd_lt _ _ _ hh, hadd, hb_add sat.hb trivial, ?_, ?_, Nat.le_succ _, sat.fr.alloc _⟩)))
    · rw [hP]
      simp only [execOp, ho, Instr.alloc, newVar, newRow, Sem.run_bind, Sem.run_pure, run_newObj, Result.andThen_ok, hz]
      rfl
    · simp [SV.val, upd_eq]
    · show SV.lt _ (SV.ptr _ _)
      simp [SV.lt]
    · exact ⟨w.heap.size, 0, by simp [upd_eq]⟩
  · rename_i c ho
    split at h
    · rename_i f x y hc hargs
      split at h
      · rename_i g i s hf hx hy
        split at h
        · rename_i T l0 hl
          obtain ⟨hgw, rfl, hlen, hg, hd, hk⟩ := h
          cases hgw
          rw [if_pos (hgd hg)]
          obtain ⟨b, hb, hB, hbv⟩ := ptr hl
          obtain ⟨_, x2⟩ := ev_sound hx sat
          obtain ⟨_, y2⟩ := ev_sound hy sat
          refine .inl (call (h := 0) (vs := [.ptr i 0, .str s]) (Q' := fun v w' => ∃ f', BldAt 70 5 b (l0 ++ s) w' f' ∧ Fr w (ϕ i) w' ∧ ∀ x ∈ f', x ∈ ϕ i ∨ w.heap.size ≤ x) ho hc hf ?_ (by rw [hP]; exact Tryd.func114) (by kernel_rfl) (by kernel_rfl) ?_ _ _ fun v w' hq => ?_)
          · rw [hargs]; simp only [List.map_cons, List.map_nil, SV.vals, (x2 rfl).1, (y2 rfl).1]
          · rw [hP]
            simp only [SV.vals, hbv]
            refine (bld_ws b l0 ⟨s.toArray⟩ w (ϕ i) hB (by simpa [ByteArray.size, LIM] using hlen)).mono fun e w' he => ?_
            obtain ⟨rfl, h1⟩ := he
            exact ⟨_, rfl, by simpa using h1⟩
          · obtain ⟨f', q1, q2, q3⟩ := hq
            obtain ⟨ϕ', r1, r2, r3⟩ := bld_redo sat hl hb q1 q2 q3
            exact hk _ _ (at_drop kp hn sat h0 hd r1 r2 r3)
        · exact h.elim
      · rename_i g i n hf hx hy
        split at h
        · rename_i T l0 hl
          exact absurd h.1 (by simp [bfWB])
        · exact h.elim
      · rename_i g i n hf hx hy
        split at h
        · rename_i T l0 hl
          obtain ⟨hgw, rfl, ⟨hr0, hr1, hr2⟩, hlen, hg, hd, hk⟩ := h
          cases hgw
          rw [if_pos (hgd hg)]
          obtain ⟨b, hb, hB, hbv⟩ := ptr hl
          obtain ⟨_, x2⟩ := ev_sound hx sat
          obtain ⟨_, y2⟩ := ev_sound hy sat
          have hw := bld_wr b l0 n hr0 hr1 hr2 w (ϕ i) hB (by simpa [LIM] using hlen)
          refine .inl (call (h := 0) (vs := [.ptr i 0, .int .i32 n]) (Q' := fun v w' => ∃ f', BldAt 70 5 b (l0 ++ runeB n) w' f' ∧ Fr w (ϕ i) w' ∧ ∀ x ∈ f', x ∈ ϕ i ∨ w.heap.size ≤ x) ho hc hf ?_ (by rw [hP]; exact Tryd.func57) (by kernel_rfl) (by kernel_rfl) ?_ _ _ fun v w' hq => ?_)
          · rw [hargs]; simp only [List.map_cons, List.map_nil, SV.vals, (x2 rfl).1, (y2 rfl).1]
          · rw [hP]
            simp only [SV.vals, hbv]
            simp only [SV.val]
            refine hw.mono fun e w' he => ?_
            obtain ⟨⟨v, rfl⟩, h1⟩ := he
            exact ⟨v, rfl, h1⟩
          · obtain ⟨f', q1, q2, q3⟩ := hq
            obtain ⟨ϕ', r1, r2, r3⟩ := bld_redo sat hl hb q1 q2 q3
            exact hk _ _ (at_drop kp hn sat h0 hd r1 r2 r3)
        · exact h.elim
      · exact h.elim
    · rename_i f x hc hargs
      split at h
      · rename_i g i hf hx
        split at h
        · rename_i T l0 hl
          obtain ⟨rfl, hg, hd, h⟩ := h
          rw [if_pos (hgd hg)]
          obtain ⟨b, hb, hB, hbv⟩ := ptr hl
          obtain ⟨_, x2⟩ := ev_sound hx sat
          rcases h with ⟨hgw, hk⟩ | ⟨rfl, hne, hlen, hk⟩
          · cases hgw
            refine .inl (call (h := 0) (vs := [.ptr i 0]) (Q' := fun v w' => v = .int .i64 l0.length ∧ w' = w) ho hc hf ?_ (by rw [hP]; exact Tryd.func115) (by kernel_rfl) (by kernel_rfl) ?_ _ _ fun v w' hq => ?_)
            · rw [hargs]; simp only [List.map_cons, List.map_nil, SV.vals, (x2 rfl).1]
            · rw [hP]
              simp only [SV.vals, hbv]
              refine (bld_len b l0 w (ϕ i) hB).mono fun e w' he => ?_
              obtain ⟨rfl, h1⟩ := he
              exact ⟨_, rfl, rfl, h1⟩
            · obtain ⟨rfl, rfl⟩ := hq
              have hlr : inR .i64 (l0.length : Int) := by
                have h9 : l0.length ≤ maxLen := by
                  obtain ⟨p, v, _, _, ⟨_, h4⟩, _⟩ := hB
                  rcases h4 with ⟨_, h4⟩ | ⟨_, cap, _, _, _, _, h4, h5, _⟩
                  · omega
                  · omega
                rw [inR64]; unfold maxLen at h9; omega
              exact hk _ _ (at_taken kp hn sat h0 hd (post_pure sat trivial hlr))
          · refine .inl (call (h := 0) (vs := [.ptr i 0]) (Q' := fun v w' => v = .string ⟨l0.toArray⟩ ∧ Fr w (ϕ i) w') ho hc hf ?_ (by rw [hP]; exact Tryd.func60) (by kernel_rfl) (by kernel_rfl) ?_ _ _ fun v w' hq => ?_)
            · rw [hargs]; simp only [List.map_cons, List.map_nil, SV.vals, (x2 rfl).1]
            · rw [hP]
              simp only [SV.vals, hbv]
              refine (bld_str b l0 w (ϕ i) hB hne).mono fun e w' he => ?_
              obtain ⟨rfl, h1⟩ := he
              exact ⟨_, rfl, rfl, h1⟩
            · obtain ⟨rfl, hF⟩ := hq
              have hap : Apart (strike [i] S.A) ϕ (ϕ i) := strike_apart sat.hp fun b hb => ⟨i, by simp, _, hl, hb⟩
              have hst := sat.hp.struck [i]
              have hst' : Holds C.w0.heap.size C.X C.F (strike [i] S.A) β ϕ w' := hst.world fun j hl hi hd b hb => hF.block b (hst.inb hi hd b hb) (hap j hl hi hd b hb)
              exact hk _ _ (at_taken kp hn sat h0 hd ⟨fun _ => rfl, fun _ _ => rfl, hst', strike_bd sat.hb [i], trivial, hlen, Nat.le_refl _, sat.fr.trans hF (fun x hx => hx) (fun b hb => sat.hp.own i _ hl b hb)⟩)
        · exact h.elim
      · exact h.elim
    · exact h.elim
  · exact h.elim

end

theorem bG {N : Nat} {keep : List Nat} (C : Cx) (hC : C.Ok) (hP : C.P = Tryd.prog) (hN : C.N = N) (hk : C.keep = keep) : BRules N keep (WP C) := by
  subst hN hk
  exact brules_wp hC hP
end Go.Proofs.YtdbkjmigdabifaaDoor
