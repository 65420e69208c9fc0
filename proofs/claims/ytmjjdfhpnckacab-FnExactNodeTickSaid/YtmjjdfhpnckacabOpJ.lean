/-
  append.
  Conditions: the table of types says what the program's says.
-/
import Derived.Test.YtmjjdfhpnckacabOpI
namespace Go.Proofs.Ytmjjdfhpnckacab
set_option linter.unusedVariables false
section
variable {P : Program} {E : Env} {N : Nat} {w0 : World} {X F : List Nat} {S : St} {β : Nat → GV} {ϕ : Nat → List Nat} {a : Act} {w w' : World} {o : Oper} {R : RR} {A : Hp} {B : Nat}

theorem lv_one : ∀ {Ts : List PTy} {ps : List PV} {vs : List Value} {f : List Nat}, Lv w Ts ps vs f → ∀ v ∈ vs, v.oneCell' = true := by
  intro Ts ps vs f h
  induction h with
  | nil => simp
  | _ => rename_i ih; intro v hv; rcases List.mem_cons.1 hv with rfl | hv <;> first | rfl | exact ih v hv

/-- Owned or empty, with room as may be. -/
def RoomO (w : World) (v : Value) (wd n : Nat) (cs : List Value) (b : Option Nat) : Prop :=
  (n = 0 ∧ cs = [] ∧ b = none ∧ ∃ a, v = .slice a 0 0) ∨ ∃ b', b = some b' ∧ Room w v wd n b' cs

/-- append onto a slice of the call's own: in its place, or over a new block. -/
theorem run_append_raw {t u e ty : TypeId} {tu te : TI} {v xv : Value} {wd n m : Nat} {cs cells : List Value} {bt : Option Nat} (hu : P.underlying t = some (.slice e)) (htu : P.underlying u = some tu.d) (hd : tu.d = .slice tu.el ∨ tu.d = .string)
    (hTe : TIok P e te) (hwd : wd = te.sz) (ho : RoomO w v wd n cs bt) (hcl : cells.length = m * wd) (hone : ∀ v ∈ cells, v.oneCell' = true)
    (hlen : ∀ w1, (Builtin.lenOf xv).run P w1 = .ok m w1) (hfc : ∀ w1, w1.heap = w.heap → (Builtin.firstCells wd m xv).run P w1 = .ok cells.toArray w1)
    (hB : (n + m) * te.bytes ≤ LIM) (hbp : 0 < te.bytes) :
    ∃ v' w' b', (Builtin.append_ #[t, u] ty #[v, xv]).run P w = .ok v' w' ∧ RoomO w' v' wd (n + m) (cs ++ cells) b' ∧ w'.os = w.os ∧ w'.tape = w.tape ∧ w'.output = w.output ∧ w.heap.size ≤ w'.heap.size ∧
      ((b' = bt ∧ ∀ k, some k ≠ bt → w'.heap[k]? = w.heap[k]?) ∨ (b' = some w.heap.size ∧ ∀ k, k < w.heap.size → w'.heap[k]? = w.heap[k]?)) := by
  obtain ⟨i, hi, his, hib, z, hz, hzc⟩ := hTe.info
  have hLIM : LIM = 140737488355328 := rfl
  have hsum : n + m ≤ LIM := Nat.le_trans (Nat.le_mul_of_pos_right _ hbp) hB
  have hzeros : (match tu.d with | .int _ => true | _ => false) = false := by rcases hd with h | h <;> rw [h]
  have hw0 : 0 < wd := by rw [hwd]; exact hTe.pos
  have hz2 : z.cells.size = te.sz := by rw [hzc]; simp [TI.sz]
  -- the grown way
  have grow : ∀ (base : Option Addr) (cap : Nat), v = .slice base n cap → cap < n + m → cs.length = n * wd →
      (Builtin.firstCells wd n v).run P w.drew = .ok cs.toArray w.drew →
      ∃ v' w' b', (Builtin.append_ #[t, u] ty #[v, xv]).run P w = .ok v' w' ∧ RoomO w' v' wd (n + m) (cs ++ cells) b' ∧ w'.os = w.os ∧ w'.tape = w.tape ∧ w'.output = w.output ∧ w.heap.size ≤ w'.heap.size ∧
      ((b' = bt ∧ ∀ k, some k ≠ bt → w'.heap[k]? = w.heap[k]?) ∨ (b' = some w.heap.size ∧ ∀ k, k < w.heap.size → w'.heap[k]? = w.heap[k]?)) := by
    intro base cap hv hlt hcsl hold
    have hge := grownCap_ge w (n + m) cap e
    have hcm := grownCap_le_maxLen w (n + m) cap e (by unfold maxLen; omega)
    have hfit := growslice_fits (bytes := i.bytes) hlt (by rw [hib]; omega)
    have hn1 : ¬ (Builtin.nextslicecap (n + m) cap * i.bytes > 2 ^ 48) := by omega
    have hn2 : ¬ ((n : Int) + (m : Int) > IntKind.i64.max ∧ i.bytes = 0) := by omega
    have hnc : ¬ (n + m ≤ cap) := by omega
    have hn3 : ¬ (9223372036854775807 < (n : Int) + (m : Int) ∧ i.bytes = 0) := by omega
    refine ⟨.slice (some ⟨w.heap.size, 0, none⟩) (n + m) (grownCap w (n + m) cap e),
      w.drew.alloc (.cells (cs.toArray ++ cells.toArray ++ Builtin.zeroCells z.cells (grownCap w (n + m) cap e - (n + m))) e), some w.heap.size, ?_, ?_, rfl, rfl, rfl, by simp, .inr ⟨rfl, fun k hk => drew_alloc_old w _ hk⟩⟩
    · subst hv
      have hh := hfc w.drew rfl
      rw [hwd] at hh hold
      have hq : (Question.appendCap (n + m) cap e).forced = false := rfl
      have hdr : ({ w with drawn := w.drawn + 1 } : World) = w.drew := rfl
      rcases hd with hd | hd <;> rw [hd] at htu <;>
      simp [Builtin.append_, run_underlying hu, run_underlying htu, sizeOf, typeInfo, hi, hlen, hnc, his, hn1, hn3, hq, hdr, hold, hh, zeroValue, hz, newRow, grownCap]
      all_goals (try (rw [← Array.append_assoc]; simp))
    · refine .inr ⟨w.heap.size, rfl, ⟨⟨0, grownCap w (n + m) cap e, _, e, (0, 0), rfl, heap_alloc_new w.drew _, ?_, by simpa using hge, hcm, by simp, ?_⟩, ?_, hsum⟩⟩
      · simp only [Array.size_append, List.size_toArray, size_zeroCells, hz2, hcsl, hcl, ← hwd, ← Nat.add_mul, Nat.zero_add]
        exact Nat.mul_le_mul_right _ (by omega)
      · simp only [Array.toList_append, List.append_assoc, List.drop_zero]
        rw [← List.append_assoc]
        exact List.take_left
      · simp only [List.length_append, hcsl, hcl, ← Nat.add_mul]
  rcases ho with ⟨rfl, rfl, rfl, ad, rfl⟩ | ⟨b, rfl, ⟨⟨o', cap, c, t', fr, rfl, hb, hcap, hle, hmx, hfz, hc⟩, hcsl, hlim⟩⟩
  · by_cases h0 : m = 0
    · subst h0
      have hcn : cells = [] := List.eq_nil_of_length_eq_zero (by simpa using hcl)
      subst hcn
      have hh := hfc w rfl
      rw [hwd] at hh
      refine ⟨.slice ad 0 0, w, none, ?_, .inl ⟨rfl, rfl, rfl, ad, rfl⟩, rfl, rfl, rfl, Nat.le_refl _, .inl ⟨rfl, fun _ _ => rfl⟩⟩
      rcases hd with hd | hd <;> rw [hd] at htu <;> cases ad <;>
      simp [Builtin.append_, run_underlying hu, run_underlying htu, sizeOf, typeInfo, hi, hlen, his] <;> (try simp at hh) <;> simp [hh, storeCells]
    · exact grow ad 0 rfl (by omega) (by simp) (by cases ad <;> simp [Builtin.firstCells, loadCells, loadCellsFrom])
  · by_cases hroom : n + m ≤ cap
    · have hmul : (n + m) * wd ≤ cap * wd := Nat.mul_le_mul_right _ hroom
      have hfit : o' + n * te.sz + 0 + cells.length ≤ c.size := by
        rw [hcl, ← hwd]; rw [Nat.add_mul] at hmul; omega
      obtain ⟨w', r1, r2, r3, r4, r5, r6, r7⟩ := run_storeCells_gen (P := P) b t' fr cells (o' + n * te.sz) 0 c w hb hfit hfz hone
      have hh := hfc w rfl
      rw [hwd] at hh
      have hct : (c.toList.drop o').take (n * wd) = cs := by rw [← hcsl]; exact hc
      have hsz : o' + n * wd ≤ c.size := by rw [Nat.add_mul] at hmul; omega
      refine ⟨.slice (some ⟨b, o', none⟩) (n + m) cap, w', some b, ?_, ?_, r4, r5, r6, Nat.le_of_eq r7.symm, .inl ⟨rfl, fun k hk => r3 k (by simpa using hk)⟩⟩
      · rcases hd with hd | hd <;> rw [hd] at htu <;>
        simp [Builtin.append_, run_underlying hu, run_underlying htu, sizeOf, typeInfo, hi, hlen, his, hroom, hh, addr_add, r1]
      · refine .inr ⟨b, rfl, ⟨⟨o', cap, _, t', fr, rfl, r2, ?_, hroom, hmx, ?_, ?_⟩, ?_, hsum⟩⟩
        · simp only [List.size_toArray, List.length_append, List.length_take, List.length_drop, Array.length_toList]; omega
        · intro j hj
          apply hfz j
          simp only [List.size_toArray, List.length_append, List.length_take, List.length_drop, Array.length_toList] at hj; omega
        · have e1 : c.toList.take (o' + n * te.sz + 0) = c.toList.take o' ++ cs := by
            rw [← hwd, Nat.add_zero, List.take_add, hct]
          have hol : (c.toList.take o').length = o' := by simp; omega
          rw [List.toList_toArray, e1]
          have : c.toList.take o' ++ cs ++ cells ++ c.toList.drop (o' + n * te.sz + 0 + cells.length) = c.toList.take o' ++ ((cs ++ cells) ++ c.toList.drop (o' + n * te.sz + 0 + cells.length)) := by simp
          rw [this]
          conv => lhs; rw [← hol]
          simp only [hol]
          rw [List.drop_left' hol, List.take_left]
        · simp only [List.length_append, hcsl, hcl, ← Nat.add_mul]
    · have hold : (Builtin.firstCells wd n (.slice (some ⟨b, o', none⟩) n cap)).run P w.drew = .ok cs.toArray w.drew := by
        have hbnd : o' + n * wd ≤ c.size := by
          have := Nat.mul_le_mul_right wd hle; omega
        have := run_loadCells_row (P := P) (w := w.drew) b o' _ c t' fr hb hbnd
        simp only [Builtin.firstCells]
        rw [this, ← hcsl]
        simp [hc]
      exact grow _ cap rfl (by omega) hcsl hold

/-- What an operand of append gives: its elements' cells. -/
theorem src_sound {T : PTy} {x : SV} {ob : Prop} {new : List PV} (h : srcOf A T x = some (ob, new)) (hob : ob) (hp : Holds B X F A β ϕ w) (hk : SV.ok β x) :
    ∃ (cells : List Value) (f : List Nat), Lv w (flatT T new.length) (flatP new) cells f ∧ (∀ e ∈ new, Shp T e) ∧ new.length ≤ LIM ∧ (∀ w1, (Builtin.lenOf (SV.val β x)).run P w1 = .ok new.length w1) ∧
      (∀ w1, w1.heap = w.heap → (Builtin.firstCells T.wd new.length (SV.val β x)).run P w1 = .ok cells.toArray w1) ∧ ((∀ h, x ≠ .sl h) → f = []) ∧
      (∀ i, x = .sl i → (∃ b, ϕ i = b :: f) ∨ f = []) ∧ (∀ i p es, x = .sl i → lk A i = some (.arr .dp T es p) → Lo w (flatT T new.length) (flatP new) cells f) := by
  cases x <;> simp only [srcOf, reduceCtorEq, Option.some.injEq, Prod.mk.injEq] at h
  case str l =>
    obtain ⟨rfl, rfl⟩ := h
    subst hob
    have hl : (bytesPV l).length = l.length := by simp [bytesPV]
    have hsz : (ByteArray.mk l.toArray).size = l.length := by simp [ByteArray.size]
    refine ⟨l.map fun b => .int .u8 b.toNat, [], by rw [hl]; exact lv_bytes w l, ?_, by rw [hl]; exact hk, ?_, ?_, fun _ => rfl, by simp, by simp⟩
    · intro e he qs; simp only [bytesPV, List.mem_map] at he; obtain ⟨b, _, rfl⟩ := he; simp
    · intro w1; simp [Builtin.lenOf, SV.val, hl, hsz]
    · intro w1 _
      have h2 : ((ByteArray.mk l.toArray).extract 0 l.length).data = l.toArray := by
        have : (ByteArray.mk l.toArray).extract 0 l.length = ⟨l.toArray⟩ := by
          apply ByteArray.ext; simp
        rw [this]
      simp [Builtin.firstCells, SV.val, hl, h2]
  case sl i =>
    split at h
    · cases h
    · rename_i ow T' es p hnc hl
      have hnc : ∀ k, ow ≠ .cs k := fun k e => hnc k (by rw [e])
      simp only [Option.some.injEq, Prod.mk.injEq] at h
      obtain ⟨rfl, rfl⟩ := h
      subst hob
      have hL := hp_lv hp hl hnc
      obtain ⟨hle, cap, ad, hv, hcap⟩ := lv_len hL
      by_cases h0 : 0 < es.length
      · -- the cells of this very array
        have key : ∀ (L : List PTy → List PV → List Value → List Nat → Prop), LOk w L → OwnG L w (β i).v T' es (ϕ i) → ∃ b off cap' c t fr cs f1, (β i).v = .slice (some ⟨b, off, none⟩) es.length cap' ∧ ϕ i = b :: f1 ∧ w.heap[b]? = some (.cells c t fr) ∧ (∀ e ∈ es, Shp T' e) ∧ L (flatT T' es.length) (flatP es) cs f1 ∧ (c.toList.drop off).take cs.length = cs := by
          rintro L hLk (⟨rfl, _⟩ | ⟨b, f1, cs, hϕ, ⟨⟨o', cap, c, t', fr, hv, hblk, hcap, hle, hmx, hfz, hcs⟩, hlen1, hlim⟩, hS, hL⟩)
          · simp at h0
          · exact ⟨b, o', cap, c, t', fr, cs, f1, hv, hϕ, hblk, hS, hL, hcs⟩
        have gen : ∃ b off cap' c t fr cs f1, (β i).v = .slice (some ⟨b, off, none⟩) es.length cap' ∧ ϕ i = b :: f1 ∧ w.heap[b]? = some (.cells c t fr) ∧ (∀ e ∈ es, Shp T' e) ∧ Lv w (flatT T' es.length) (flatP es) cs f1 ∧ (c.toList.drop off).take cs.length = cs ∧ (ow = .dp → Lo w (flatT T' es.length) (flatP es) cs f1) := by
          by_cases hdp : ow = .dp
          · subst hdp
            obtain ⟨b, off, cap', c, t, fr, cs, f1, q1, q2, q3, q4, q5, q6⟩ := key _ (lok_lo w) (hp.sat _ _ hl)
            exact ⟨b, off, cap', c, t, fr, cs, f1, q1, q2, q3, q4, q5.lv, q6, fun _ => q5⟩
          · obtain ⟨b, off, cap', c, t, fr, cs, f1, q1, q2, q3, q4, _, q5, q6⟩ := lv_sl hL h0
            exact ⟨b, off, cap', c, t, fr, cs, f1, q1, q2, q3, q4, q5, q6, fun e => absurd e hdp⟩
        obtain ⟨b, off, cap', c, t, fr, cs, f1, hv', hϕ, hb, hS, hLs, hcs, hLo⟩ := gen
        refine ⟨cs, f1, hLs, hS, hle, ?_, ?_, fun hh => absurd rfl (hh i), ?_, ?_⟩
        · intro w1; simp [Builtin.lenOf, SV.val, hv']
        · intro w1 hw1
          have hcl : cs.length = es.length * T'.wd := by rw [hLs.lens.2, ← hLs.lens.1, flatT_len]
          have hbnd : off + es.length * T'.wd ≤ c.size ∨ es.length * T'.wd = 0 := by
            have := congrArg List.length hcs
            rw [List.length_take, List.length_drop] at this
            simp only [Array.length_toList] at this
            omega
          simp only [Builtin.firstCells, SV.val, hv']
          rcases hbnd with hbnd | hbnd
          · rw [run_loadCells_row (P := P) b off _ c t fr (by rw [hw1]; exact hb) hbnd, ← hcl, hcs]
          · have : cs = [] := List.eq_nil_of_length_eq_zero (by omega)
            rw [hbnd, this]; rfl
        · intro j e; cases e; exact .inl ⟨b, hϕ⟩
        · intro j p' es' e hl'
          cases e
          rw [hl] at hl'
          cases hl'
          exact hLo rfl
      · have h1 : es = [] := List.eq_nil_of_length_eq_zero (by omega)
        subst h1
        refine ⟨[], [], .nil, by simp, by simp, ?_, ?_, fun _ => rfl, fun j e => .inr rfl, fun j p' es' e hl' => ⟨[], rfl, .nil⟩⟩
        · intro w1; simp [Builtin.lenOf, SV.val, hv]
        · intro w1 _
          simp only [SV.val, hv]
          cases ad <;> simp [Builtin.firstCells, loadCells, loadCellsFrom]
    · cases h
  case nils =>
    obtain ⟨rfl, rfl⟩ := h
    refine ⟨[], [], .nil, by simp, by simp, ?_, ?_, fun _ => rfl, by simp, by simp⟩
    · intro w1; simp [Builtin.lenOf, SV.val]
    · intro w1 _; simp [Builtin.firstCells, SV.val]

def optF (b : Option Nat) (g : List Nat) : List Nat := match b with | some b => b :: g | none => []

/-- How elements that were appended are held. -/
theorem ownG_append {L : World → List PTy → List PV → List Value → List Nat → Prop} (hLk : ∀ w, LOk w (L w)) (hLf : ∀ w w' Ts ps vs f, L w Ts ps vs f → (∀ b ∈ f, w'.heap[b]? = w.heap[b]?) → L w' Ts ps vs f)
    {v' : Value} {T : PTy} {es new : List PV} {cs cells : List Value} {g fx : List Nat} {b' : Option Nat} (hr : RoomO w' v' T.wd (es ++ new).length (cs ++ cells) b') (hL : L w (flatT T es.length) (flatP es) cs g) (hN : L w (flatT T new.length) (flatP new) cells fx)
    (hS : ∀ e ∈ es, Shp T e) (hS' : ∀ e ∈ new, Shp T e) (hf : ∀ b ∈ g ++ fx, w'.heap[b]? = w.heap[b]?) : OwnG (L w') w' v' T (es ++ new) (optF b' (g ++ fx)) := by
  rcases hr with ⟨h1, h2, rfl, h4⟩ | ⟨b, rfl, hr⟩
  · exact .inl ⟨List.eq_nil_of_length_eq_zero h1, rfl, h4⟩
  · refine .inr ⟨b, g ++ fx, cs ++ cells, rfl, hr, ?_, ?_⟩
    · intro e he
      rcases List.mem_append.1 he with he | he
      · exact hS e he
      · exact hS' e he
    · have h1 := (hLk w').app (hLf w w' _ _ _ _ hL fun b hb => hf b (by simp [hb])) (hLf w w' _ _ _ _ hN fun b hb => hf b (by simp [hb]))
      rw [List.length_append, flatT_add, flatP_append]
      exact h1

theorem ownG_room {L : List PTy → List PV → List Value → List Nat → Prop} (hLn : L [] [] [] []) {v : Value} {T : PTy} {es : List PV} {f : List Nat} (h : OwnG L w v T es f) : ∃ cs g b, RoomO w v T.wd es.length cs b ∧ L (flatT T es.length) (flatP es) cs g ∧ (∀ e ∈ es, Shp T e) ∧ f = optF b g ∧ (b = none → g = []) := by
  rcases h with ⟨rfl, rfl, h4⟩ | ⟨b, f1, cs, rfl, hr, hS, hL⟩
  · exact ⟨[], [], none, .inl ⟨rfl, rfl, rfl, h4⟩, hLn, by simp, rfl, fun _ => rfl⟩
  · exact ⟨cs, f1, some b, .inr ⟨b, rfl, hr⟩, hL, hS, rfl, fun h => by cases h⟩

end
end Go.Proofs.Ytmjjdfhpnckacab
