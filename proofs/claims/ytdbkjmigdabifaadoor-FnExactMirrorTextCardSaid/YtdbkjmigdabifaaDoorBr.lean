/-
  A rune written into a builder of strings.
  Conditions: none.
-/
import Derived.Test.YtdbkjmigdabifaaDoorBx
import Derived.Lib.RuneBytes
namespace Go.Proofs.YtdbkjmigdabifaaDoor
open Go.Lib Go.RowKit
set_option linter.unusedVariables false

section
variable {P : Program} {w : World}

theorem app_rows (t ty e : TypeId) (i : TypeInfo) (ht : P.underlying t = some (.slice e)) (hi : P.info? e = some i) (hz : i.zero = some (.int .u8 0)) (hsize : i.size = 1) (hby : i.bytes = 1)
    (v : Value) (n : Nat) (xs : List Value) (hown : w.ownsRow 0 e 1 v n xs) (ad : Addr) (ys : List Value) (hnews : ∀ (j : Nat) (u : Value), ys[j]? = some u → w.cell? (ad.add j) = some u) (hone : ∀ u ∈ ys, u.oneCell' = true) (hpos : 0 < ys.length) (hbytes : n + ys.length ≤ 140737488355328) :
    ∃ v' w', (Builtin.append_ #[t, t] ty #[v, .slice (some ad) ys.length ys.length]).run P w = .ok v' w' ∧ w'.ownsRow 0 e 1 v' (n + ys.length) (xs ++ ys) ∧ w.grownBy w' v.ownBlock ∧ (v'.ownBlock = v.ownBlock ∨ v'.ownBlock = some w.heap.size) := by
  obtain ⟨v', w', hr, h2, h3, h4⟩ := run_append_own (P := P) w 0 t ty e i (.int .u8 0) 1 1 ht hi hz hsize hby rfl (by decide) v n xs hown ad ys.length ys.length ys (Nat.mul_one _).symm hnews hone (by unfold maxLen; omega) (by omega) (Nat.zero_le _)
  refine ⟨v', w', hr, h2, h3, ?_⟩
  have hxl : xs.length = n := by simpa using hown.1
  have hown' := hown
  rcases hown.2 with ⟨rfl, rfl⟩ | ⟨g, cap, cur, rfl, _, hg, hnc, hcm, hcs, htake⟩
  · have h5 := run_append_nil (P := P) w t ty e i (.int .u8 0) ht hi hz ad ys.length ys.length ys (by rw [hsize]; simp) hnews (by omega) (by omega) (by rw [hby]; omega)
    rw [h5] at hr; cases hr; exact .inr rfl
  · by_cases hroom : n + ys.length ≤ cap
    · have h5 := run_append_room (P := P) w t ty e i ht hi g n cap cur hg ad ys.length ys.length ys (by rw [hsize]; simp) hnews hone hroom (by rw [hsize, Nat.mul_one]; rw [Nat.mul_one] at hcs; omega)
      rw [h5] at hr; cases hr; exact .inl rfl
    · have h5 := run_append_grow (P := P) w t ty e i (.int .u8 0) ht hi hz ⟨g, 0, none⟩ n cap xs (by rw [hsize]; simpa using hxl) (hown'.cells (g := g) rfl) ad ys.length ys.length ys (by rw [hsize]; simp) hnews (by omega) (by omega) (by rw [hby]; exact growslice_fits (by omega) (by omega))
      rw [h5] at hr; cases hr; exact .inr rfl

theorem wpList_app_rows {ops : Array Oper} {rest : List Oper} {o : Oper} {a : Act} {Q : Exit → Act → World → Prop} (hgd : o.guard = none) (sl x : Operand) (t : TypeId)
    (ho : o.op = .call { callee := .builtin .append, args := #[sl, x], argTypes := #[t, t] })
    (e : TypeId) (i : TypeInfo) (ht : P.underlying t = some (.slice e)) (hi : P.info? e = some i) (hz : i.zero = some (.int .u8 0)) (hsize : i.size = 1) (hby : i.bytes = 1)
    (v : Value) (n : Nat) (xs : List Value) (hs : a.eval sl = v) (hown : w.ownsRow 0 e 1 v n xs) (ad : Addr) (ys : List Value) (hx : a.eval x = .slice (some ad) ys.length ys.length) (hnews : ∀ (j : Nat) (u : Value), ys[j]? = some u → w.cell? (ad.add j) = some u) (hone : ∀ u ∈ ys, u.oneCell' = true) (hpos : 0 < ys.length) (hbytes : n + ys.length ≤ 140737488355328)
    (h : ∀ v' w', w'.ownsRow 0 e 1 v' (n + ys.length) (xs ++ ys) → w.grownBy w' v.ownBlock → (v'.ownBlock = v.ownBlock ∨ v'.ownBlock = some w.heap.size) → wpList P ops Q rest (a.put o.dst v') w') : wpList P ops Q (o :: rest) a w := by
  refine wpList_plain hgd fun K hK => ?_
  obtain ⟨v', w', hr, h2, h3, h4⟩ := app_rows (P := P) t o.type e i ht hi hz hsize hby v n xs hown ad ys hnews hone hpos hbytes
  unfold Oper.wp execOp
  simp only [ho, resolve, invoke, builtin, Sem.run_bind, Sem.run_pure, Result.andThen_ok, List.map_toArray, List.map_cons, List.map_nil, hs, hx, hr]
  exact hK _ _ (h v' w' h2 h3 h4)
end

/-- The bytes of a rune's encoding. -/
def runeL (r : Int) : List Int :=
  if r < 128 then [r] else if r < 2048 then [192 + r / 64, 128 + r % 64] else if r < 65536 then [224 + r / 4096, 128 + r / 64 % 64, 128 + r % 64]
  else [240 + r / 262144, 128 + r / 4096 % 64, 128 + r / 64 % 64, 128 + r % 64]

/-- A row of bytes grew by some. -/
def Grew (w : World) (v : Value) (n : Nat) (xs : List Value) (ys : List Int) (v' : Value) (w' : World) : Prop :=
  w'.ownsRow 0 5 1 v' (n + ys.length) (xs ++ ys.map fun z => Value.int .u8 z) ∧ Fr w v.ownBlock.toList w' ∧ ∀ k, v'.ownBlock = some k → v.ownBlock = some k ∨ w.heap.size ≤ k

theorem alloc_size (w : World) (o : Obj) : (w.alloc o).heap.size = w.heap.size + 1 := Array.size_push _

theorem Grew.mk' {w w2 : World} {v v' : Value} {n : Nat} {xs : List Value} {ys : List Int} {o : Obj} (h1 : w2.ownsRow 0 5 1 v' (n + ys.length) (xs ++ ys.map fun z => Value.int .u8 z)) (h2 : (w.alloc o).grownBy w2 v.ownBlock) (h3 : v'.ownBlock = v.ownBlock ∨ v'.ownBlock = some (w.alloc o).heap.size) : Grew w v n xs ys v' w2 := by
  refine ⟨h1, (Fr.alloc (Fr.refl w []) o).trans (grown_fr h2) (fun x hx => by cases hx) (fun x hx => .inl hx), fun k hk => ?_⟩
  rcases h3 with h3 | h3
  · exact .inl (h3.symm.trans hk)
  · rw [h3] at hk; cases hk
    right; show _ ≤ (w.heap.push o).size; simp

set_option maxHeartbeats 4000000 in
set_option maxRecDepth 100000 in
theorem apr_two (v : Value) (n : Nat) (xs : List Value) (r : Int) (h0 : 128 ≤ r) (h1 : r ≤ 2047) (w : World) (hown : w.ownsRow 0 5 1 v n xs) (hlen : n + 4 ≤ 140737488355328) :
    Calls Tryd.prog 94 #[v, .int .i32 r] w fun e w' => ∃ v', e = .returned v' ∧ Grew w v n xs [192 + r / 64, 128 + r % 64] v' w' := by
  obtain ⟨i0, hi, hz0, hz1, hz2⟩ := info_parts infoB
  go_enter Tryd.func94, Tryd.ntmps94
  go_wp2_with (at_builtin; refine wpList_app_rows rfl _ _ 68 rfl 5 i0 Tryd.underlying68 hi hz0 hz1 hz2 _ _ _ rfl (hown.alloc _) ⟨w.heap.size, 0, none⟩ [.int .u8 (192 + r / 64), .int .u8 (128 + r % 64)] rfl ?c1 ?c2 (by simp) ?c4 ?_)
  case c1 =>
    intro j u hj
    match j, hj with
    | 0, hj => simp at hj; subst hj; simp [Addr.add]
    | 1, hj => simp at hj; subst hj; simp [Addr.add]
    | (j + 2), hj => simp at hj
  case c2 => intro u hu; simp at hu; rcases hu with rfl | rfl <;> rfl
  case c4 => simp; omega
  intro v' w2 hown' hgrow hb
  go_wp2
  go_ret
  exact ⟨v', rfl, Grew.mk' hown' hgrow (hb.imp id fun h => h.trans (congrArg some (alloc_size w _).symm))⟩

set_option maxHeartbeats 4000000 in
set_option maxRecDepth 100000 in
theorem apr_three_lo (v : Value) (n : Nat) (xs : List Value) (r : Int) (h0 : 2048 ≤ r) (h1 : r < 55296) (w : World) (hown : w.ownsRow 0 5 1 v n xs) (hlen : n + 4 ≤ 140737488355328) :
    Calls Tryd.prog 94 #[v, .int .i32 r] w fun e w' => ∃ v', e = .returned v' ∧ Grew w v n xs [224 + r / 4096, 128 + r / 64 % 64, 128 + r % 64] v' w' := by
  obtain ⟨i0, hi, hz0, hz1, hz2⟩ := info_parts infoB
  go_enter Tryd.func94, Tryd.ntmps94
  go_wp2_with (at_builtin; refine wpList_app_rows rfl _ _ 68 rfl 5 i0 Tryd.underlying68 hi hz0 hz1 hz2 _ _ _ rfl (hown.alloc _) ⟨w.heap.size, 0, none⟩ [.int .u8 (224 + r / 4096), .int .u8 (128 + r / 64 % 64), .int .u8 (128 + r % 64)] rfl ?c1 ?c2 (by simp) ?c4 ?_)
  case c1 =>
    intro j u hj
    match j, hj with
    | 0, hj => simp at hj; subst hj; simp [Addr.add]
    | 1, hj => simp at hj; subst hj; simp [Addr.add]
    | 2, hj => simp at hj; subst hj; simp [Addr.add]
    | (j + 3), hj => simp at hj
  case c2 => intro u hu; simp at hu; rcases hu with rfl | rfl | rfl <;> rfl
  case c4 => simp; omega
  intro v' w2 hown' hgrow hb
  go_wp2
  go_ret
  exact ⟨v', rfl, Grew.mk' hown' hgrow (hb.imp id fun h => h.trans (congrArg some (alloc_size w _).symm))⟩

set_option maxHeartbeats 4000000 in
set_option maxRecDepth 100000 in
theorem apr_three_hi (v : Value) (n : Nat) (xs : List Value) (r : Int) (h0 : 57343 < r) (h1 : r ≤ 65535) (w : World) (hown : w.ownsRow 0 5 1 v n xs) (hlen : n + 4 ≤ 140737488355328) :
    Calls Tryd.prog 94 #[v, .int .i32 r] w fun e w' => ∃ v', e = .returned v' ∧ Grew w v n xs [224 + r / 4096, 128 + r / 64 % 64, 128 + r % 64] v' w' := by
  obtain ⟨i0, hi, hz0, hz1, hz2⟩ := info_parts infoB
  go_enter Tryd.func94, Tryd.ntmps94
  go_wp2_with (at_builtin; refine wpList_app_rows rfl _ _ 68 rfl 5 i0 Tryd.underlying68 hi hz0 hz1 hz2 _ _ _ rfl (hown.alloc _) ⟨w.heap.size, 0, none⟩ [.int .u8 (224 + r / 4096), .int .u8 (128 + r / 64 % 64), .int .u8 (128 + r % 64)] rfl ?c1 ?c2 (by simp) ?c4 ?_)
  case c1 =>
    intro j u hj
    match j, hj with
    | 0, hj => simp at hj; subst hj; simp [Addr.add]
    | 1, hj => simp at hj; subst hj; simp [Addr.add]
    | 2, hj => simp at hj; subst hj; simp [Addr.add]
    | (j + 3), hj => simp at hj
  case c2 => intro u hu; simp at hu; rcases hu with rfl | rfl | rfl <;> rfl
  case c4 => simp; omega
  intro v' w2 hown' hgrow hb
  go_wp2
  go_ret
  exact ⟨v', rfl, Grew.mk' hown' hgrow (hb.imp id fun h => h.trans (congrArg some (alloc_size w _).symm))⟩

set_option maxHeartbeats 4000000 in
set_option maxRecDepth 100000 in
theorem apr_four (v : Value) (n : Nat) (xs : List Value) (r : Int) (h0 : 65536 ≤ r) (h1 : r ≤ 1114111) (w : World) (hown : w.ownsRow 0 5 1 v n xs) (hlen : n + 4 ≤ 140737488355328) :
    Calls Tryd.prog 94 #[v, .int .i32 r] w fun e w' => ∃ v', e = .returned v' ∧ Grew w v n xs [240 + r / 262144, 128 + r / 4096 % 64, 128 + r / 64 % 64, 128 + r % 64] v' w' := by
  obtain ⟨i0, hi, hz0, hz1, hz2⟩ := info_parts infoB
  go_enter Tryd.func94, Tryd.ntmps94
  go_wp2_with (at_builtin; refine wpList_app_rows rfl _ _ 68 rfl 5 i0 Tryd.underlying68 hi hz0 hz1 hz2 _ _ _ rfl (hown.alloc _) ⟨w.heap.size, 0, none⟩ [.int .u8 (240 + r / 262144), .int .u8 (128 + r / 4096 % 64), .int .u8 (128 + r / 64 % 64), .int .u8 (128 + r % 64)] rfl ?c1 ?c2 (by simp) ?c4 ?_)
  case c1 =>
    intro j u hj
    match j, hj with
    | 0, hj => simp at hj; subst hj; simp [Addr.add]
    | 1, hj => simp at hj; subst hj; simp [Addr.add]
    | 2, hj => simp at hj; subst hj; simp [Addr.add]
    | 3, hj => simp at hj; subst hj; simp [Addr.add]
    | (j + 4), hj => simp at hj
  case c2 => intro u hu; simp at hu; rcases hu with rfl | rfl | rfl | rfl <;> rfl
  case c4 => simp; omega
  intro v' w2 hown' hgrow hb
  go_wp2
  go_ret
  exact ⟨v', rfl, Grew.mk' hown' hgrow (hb.imp id fun h => h.trans (congrArg some (alloc_size w _).symm))⟩

set_option maxHeartbeats 4000000 in
set_option maxRecDepth 100000 in
theorem apr_one (v : Value) (n : Nat) (xs : List Value) (r : Int) (h0 : 0 ≤ r) (h1 : r ≤ 127) (w : World) (hown : w.ownsRow 0 5 1 v n xs) (hlen : n + 4 ≤ 140737488355328) :
    Calls Tryd.prog 78 #[v, .int .i32 r] w fun e w' => ∃ v', e = .returned v' ∧ Grew w v n xs [r] v' w' := by
  obtain ⟨i0, hi, hz0, hz1, hz2⟩ := info_parts infoB
  go_enter Tryd.func78, Tryd.ntmps78
  go_wp2_with (at_builtin; refine wpList_app_rows rfl _ _ 68 rfl 5 i0 Tryd.underlying68 hi hz0 hz1 hz2 _ _ _ rfl (hown.alloc _) ⟨w.heap.size, 0, none⟩ [.int .u8 (r)] rfl ?c1 ?c2 (by simp) ?c4 ?_)
  case c1 =>
    intro j u hj
    match j, hj with
    | 0, hj => simp at hj; subst hj; simp [Addr.add]
    | (j + 1), hj => simp at hj
  case c2 => intro u hu; simp at hu; subst hu; rfl
  case c4 => simp; omega
  intro v' w2 hown' hgrow hb
  go_wp2
  go_ret
  exact ⟨v', rfl, Grew.mk' hown' hgrow (hb.imp id fun h => h.trans (congrArg some (alloc_size w _).symm))⟩

set_option maxHeartbeats 4000000 in
set_option maxRecDepth 100000 in
theorem apr_any (v : Value) (n : Nat) (xs : List Value) (r : Int) (h0 : 0 ≤ r) (h1 : r ≤ 1114111) (hs : r < 55296 ∨ 57343 < r) (w : World) (hown : w.ownsRow 0 5 1 v n xs) (hlen : n + 4 ≤ 140737488355328) :
    Calls Tryd.prog 78 #[v, .int .i32 r] w fun e w' => ∃ v', e = .returned v' ∧ Grew w v n xs (runeL r) v' w' := by
  by_cases h2 : r < 128
  · rw [runeL, if_pos h2]
    exact apr_one v n xs r h0 (by omega) w hown hlen
  have key : Calls Tryd.prog 94 #[v, .int .i32 r] w fun e w' => ∃ v', e = .returned v' ∧ Grew w v n xs (runeL r) v' w' := by
    rw [runeL, if_neg h2]
    by_cases h3 : r < 2048
    · rw [if_pos h3]; exact apr_two v n xs r (by omega) (by omega) w hown hlen
    rw [if_neg h3]
    by_cases h4 : r < 65536
    · rw [if_pos h4]
      rcases hs with hs | hs
      · exact apr_three_lo v n xs r (by omega) hs w hown hlen
      · exact apr_three_hi v n xs r hs (by omega) w hown hlen
    · rw [if_neg h4]; exact apr_four v n xs r (by omega) (by omega) w hown hlen
  have h9 : 128 ≤ r := by omega
  clear h2
  generalize runeL r = L at *
  go_enter Tryd.func78, Tryd.ntmps78
  go_wp2_with (go_at_call 94; refine key.mono ?_)
  rintro e w1 ⟨v', rfl, hG⟩
  go_wp2
  go_ret
  exact ⟨v', rfl, hG⟩

theorem runeL_byte {r : Int} (h0 : 0 ≤ r) (h1 : r ≤ 1114111) : ∀ z ∈ runeL r, 0 ≤ z ∧ z < 256 := by
  intro z hz
  unfold runeL at hz
  split at hz
  · simp only [List.mem_singleton] at hz; omega
  · split at hz
    · simp only [List.mem_cons, List.not_mem_nil, or_false] at hz; omega
    · split at hz
      · simp only [List.mem_cons, List.not_mem_nil, or_false] at hz; omega
      · simp only [List.mem_cons, List.not_mem_nil, or_false] at hz; omega

theorem bld_put' {T b : Nat} {v v' : Value} {l' : List UInt8} {w w1 w2 : World} {f : List Nat} (hT : T ≠ 5) (h1 : Fr w [b] w1) (hbw : b < w.heap.size) (hb : w1.heap[b]? = some (.cells #[.pointer (some ⟨b, 0, none⟩), v] T (0, 0))) (hne : v.ownBlock ≠ some b) (hf : f = b :: v.ownBlock.toList)
    (hown : w2.ownsRow 0 5 1 v' l'.length (l'.map fun x => Value.int .u8 x.toNat)) (hg : Fr w1 v.ownBlock.toList w2) (ho : ∀ k, v'.ownBlock = some k → v.ownBlock = some k ∨ w1.heap.size ≤ k) :
    ∃ f', BldAt T 5 b l' (w2.setCell ⟨b, 1, none⟩ v') f' ∧ Fr w f (w2.setCell ⟨b, 1, none⟩ v') ∧ ∀ x ∈ f', x ∈ f ∨ w.heap.size ≤ x := by
  have hb2 : w2.heap[b]? = some (.cells #[.pointer (some ⟨b, 0, none⟩), v] T (0, 0)) := by
    rw [hg.block b (Array.getElem?_eq_some_iff.1 hb).1 (fun e => hne (by simpa using e))]; exact hb
  have hne' := ownBlock_ne hown hb2 hT
  have hfr2 : Fr w2 [b] (w2.setCell ⟨b, 1, none⟩ v') := ⟨rfl, rfl, rfl, by simp [World.setCell], fun k hk hn => Below.heap_setCell _ _ _ _ (fun e => hn (by simp [e]))⟩
  refine ⟨b :: v'.ownBlock.toList, ⟨_, v', .inr rfl, ?_, ?_, hne', rfl⟩, ?_, ?_⟩
  · simp [World.setCell, Array.getElem?_modify, hb2]
  · exact hown.kept (row := some b) ⟨rfl, rfl, rfl, by simp [World.setCell], fun k _ hk => Below.heap_setCell _ _ _ _ (fun e => hk (by simp [e]))⟩ (Or.inr hne')
  · subst hf
    refine ((h1.trans hg (Z := b :: v.ownBlock.toList) (fun x hx => by simp at hx; simp [hx]) (fun x hx => .inl (by simp at hx ⊢; exact .inr hx))).trans hfr2 (fun x hx => hx) (fun x hx => .inl (by simp at hx; simp [hx])))
  · intro x hx
    subst hf
    simp only [List.mem_cons, Option.mem_toList] at hx ⊢
    rcases hx with rfl | hx
    · exact .inl (.inl rfl)
    · rcases ho x hx with h | h
      · exact .inl (.inr h)
      · right; have := h1.size; omega

set_option maxHeartbeats 4000000 in
set_option maxRecDepth 100000 in
theorem bld_wr (b : Nat) (l : List UInt8) (r : Int) (h0 : 0 ≤ r) (h1 : r ≤ 1114111) (hs : r < 55296 ∨ 57343 < r) (w : World) (f : List Nat) (h : BldAt 70 5 b l w f) (hlen : l.length + 4 ≤ 140737488355328) :
    Calls Tryd.prog 57 #[.pointer (some ⟨b, 0, none⟩), .int .i32 r] w fun e w' => (∃ v, e = .returned v) ∧ ∃ f', BldAt 70 5 b (l ++ (runeL r).map fun z => UInt8.ofNat z.toNat) w' f' ∧ Fr w f w' ∧ ∀ x ∈ f', x ∈ f ∨ w.heap.size ≤ x := by
  have hbw : b < w.heap.size := by
    obtain ⟨p, v, _, hb, _⟩ := h
    exact (Array.getElem?_eq_some_iff.1 hb).1
  have hrow : ∀ v, f = b :: v → ∀ k ∈ v, k < w.heap.size := by
    obtain ⟨p, v, _, hb, hown, _, hf⟩ := h
    intro v' hv' k hk
    rw [hf] at hv'; cases hv'
    exact (hown.lt k (by simpa using hk)).2
  go_enter Tryd.func57, Tryd.ntmps57
  go_wp2_with (go_at_call 77; refine (bld_check b l _ f h).mono ?_)
  rintro e w0 ⟨rfl, hU, hF0⟩
  obtain ⟨v, hbk, hown, hne, hf⟩ := hU
  obtain ⟨ao, cap, rfl⟩ : ∃ ao cap, v = .slice ao l.length cap := by
    rcases hown.2 with ⟨hv, h0⟩ | ⟨g, cap, cur, hv, _⟩
    · exact ⟨none, 0, by rw [hv, h0]⟩
    · exact ⟨_, _, hv⟩
  have c0 : w0.cell? ⟨b, 0, none⟩ = some (.pointer (some ⟨b, 0, none⟩)) := by simp [World.cell?, hbk]
  have c1 : w0.cell? ⟨b, 1, none⟩ = some (.slice ao l.length cap) := by simp [World.cell?, hbk]
  go_wp2_with (go_at_call 78; refine (apr_any _ _ _ r h0 h1 hs _ hown hlen).mono ?_)
  rintro e w2 ⟨v', rfl, hG⟩
  obtain ⟨hown', hFr, hbl⟩ := hG
  have hL : (l.length + (runeL r).length) = (l ++ (runeL r).map fun z => UInt8.ofNat z.toNat).length := by simp
  have hM : (l.map (fun x => Value.int .u8 x.toNat) ++ (runeL r).map fun z => Value.int .u8 z) = (l ++ (runeL r).map fun z => UInt8.ofNat z.toNat).map fun x => Value.int .u8 x.toNat := by
    rw [List.map_append, List.map_map]
    congr 1
    refine List.map_congr_left fun z hz => ?_
    obtain ⟨g1, g2⟩ := runeL_byte h0 h1 z hz
    have : ((UInt8.ofNat z.toNat).toNat : Int) = z := by rw [UInt8.toNat_ofNat', Nat.mod_eq_of_lt (by omega)]; omega
    simp only [Function.comp, this]
  rw [hL, hM] at hown'
  have hb2 : w2.heap[b]? = some (.cells #[.pointer (some ⟨b, 0, none⟩), .slice ao l.length cap] 70 (0, 0)) := by
    rw [hFr.block b (Array.getElem?_eq_some_iff.1 hbk).1 (fun e => hne (by simpa using e))]
    exact hbk
  have d0 : w2.cell? ⟨b, 0, none⟩ = some (.pointer (some ⟨b, 0, none⟩)) := by simp [World.cell?, hb2]
  have d1 : w2.cell? ⟨b, 1, none⟩ = some (.slice ao l.length cap) := by simp [World.cell?, hb2]
  have f1 : w2.frozen? ⟨b, 1, none⟩ = false := by simp [World.frozen?, hb2]
  have hfin := bld_put' (by decide) hF0 hbw hbk hne hf hown' hFr hbl
  obtain ⟨ao', n', cap', rfl⟩ : ∃ ao n' cap, v' = .slice ao n' cap := by
    rcases hown'.2 with ⟨hv, _⟩ | ⟨g, cap, cur, hv, _⟩
    · exact ⟨_, _, _, hv⟩
    · exact ⟨_, _, _, hv⟩
  go_wp2
  go_ret2
  exact ⟨⟨_, rfl⟩, hfin⟩

end Go.Proofs.YtdbkjmigdabifaaDoor
