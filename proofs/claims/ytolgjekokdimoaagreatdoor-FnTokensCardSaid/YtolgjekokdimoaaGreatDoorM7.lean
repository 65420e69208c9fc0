/-
  Part 7 of the proof of FnTokens: a verification-condition generator over the program and the contracts of its functions, in the order of their use.
  Conditions: none.
-/
import Derived.Test.YtolgjekokdimoaaGreatDoorM6
set_option linter.unusedVariables false
set_option linter.unusedSimpArgs false
set_option linter.unusedSectionVars false

section
namespace Go.Proofs.YtolgjekokdimoaaGreatDoor
variable [LaidG]
open Go.Lib Go.RowKit
set_option linter.unusedVariables false
set_option linter.unusedSimpArgs false
set_option maxRecDepth 100000

/-- The first seed. -/
def seed0 (es : List PV) : Int := (es.length : Int).tmod 1000
def srcFin (slot : Nat) (es : List PV) (S : St) : Prop :=
  match lk S.Lp slot with
  | some (.ptr h 0) => ∃ t, lk S.A h = some (.box true t [.sl 0, .int .i64 0, .int .i64 (seed0 es)])
  | _ => False
def SrcPost (w : World) (v : Value) (es : List PV) (e : Ending) (w' : World) : Prop :=
  ∃ b t pre post, e = .returned (.pointer (some ⟨b, pre.length, none⟩)) ∧ w.heap.size ≤ b ∧ w'.heap[b]? = some (.cells (pre ++ [v, .int .i64 0, .int .i64 (seed0 es)] ++ post).toArray t (0, 0)) ∧ Fr w [] w'

theorem src_of_vc {P : Program} {E : Env} {fid : FuncId} {fn : Func} {c : Code} {es : List PV} (keep : List Nat) (slot : Nat) (hE : EnvOk P E) (hm : P.follows .mixedOrders = true) (hf : P.funcs[fid]? = some fn) (hb : fn.body = some c)
    (hr : fn.results = [ResultVar.tmp slot].toArray) (hp : 1 ≤ fn.ntmps) (hkeep : keep.contains 0 = true)
    (h : ∀ W, Rules E fn.ntmps keep 1 (srcFin slot es) W → W [.code c] ⟨[(0, .sl 0)], [], [(0, .arr (.vw []) (.int .u8) es .no)], 1⟩) :
    ∀ (w : World) (v : Value) (f : List Nat), Lv w [.list (.int .u8)] [.list es] [v] f → GlOk w [] → Calls P fid #[v] w fun e w' => SrcPost w v es e w' := by
  intro w v f hL hgl
  have hA : ArgsV w [(.rd, .list (.int .u8))] [.list es] [v] f f [] := by
    have := ArgsV.rd (show ArgV w (.list (.int .u8)) (.list es) v f f from ⟨hL, rfl⟩) ArgsV.nil
    simpa using this
  have h0 : Holds w.heap.size [] (f ++ []) [] (fun _ => ⟨Value.bool false, [], []⟩) (fun _ => []) w :=
    ⟨fun _ => rfl, fun _ _ h => (by cases h), fun _ _ h => (by cases h), fun _ _ h => (by cases h), fun _ _ h => (by cases h), fun _ _ _ _ h => (by cases h), fun _ _ h => (by cases h), fun _ _ h => (by cases h)⟩
  obtain ⟨β, ϕ, ⟨e1, e2, e3, e4, e5, e6, e7, e8, e9⟩, hold⟩ := introTs_sound [(.rd, .list (.int .u8))] [.list es] [v] f f [] 0 [] _ _ hA h0 (fun i hl h => (by cases h)) rfl (by simp) (fun b hb => by simp [hb]) (by simp) (by simp) (fun i hl h => (by cases h))
  have hv0 : (β 0).v = v := by
    have := e5
    simp [introTs, introT, introR, introB, introL, SV.vals, SV.val] at this
    exact this
  have e1' : Holds w.heap.size [] (f ++ []) [(0, .arr (.vw []) (.int .u8) es .no)] β ϕ w := e1
  have e2' : Bd 1 β [(0, .arr (.vw []) (.int .u8) es .no)] := e2
  let C : Cx := ⟨P, E, fn.ntmps, w, [], f ++ [], keep, 1, β, bodyPost P fn (SrcPost w v es), srcFin slot es⟩
  have hfin : ∀ S a w', At C S a w' → srcFin slot es S → a.defers = [] ∧ ∃ v', (results fn a.tmps).run P w' = .ok v' w' ∧ SrcPost w v es (.returned v') w' := by
    intro S a w' hat hS
    obtain ⟨kp, hn, β1, ϕ1, sat, hsame⟩ := hat
    unfold srcFin at hS
    split at hS
    · rename_i h hlk
      obtain ⟨t, hbx⟩ := hS
      let g : ResultVar → Sem Value := fun r => match r with | .tmp t => pure (a.tmps.getD t undef) | .cell t ty => asAddr (a.tmps.getD t undef) >>= fun x => loadVar ty x
      have hxs : lkAll E S [.tmp slot] = some [.ptr h 0] := by simp [lkAll, hlk]
      obtain ⟨v1, v2, v3, v4⟩ := lkAll_run hE.ty sat g (fun _ => rfl) (fun _ _ => rfl) hxs
      obtain ⟨b, t', hb', hϕ, hblk⟩ := sat.hp.sat _ _ hbx
      have hown := sat.hp.own _ _ hbx b (by simp [owned, hϕ])
      have hge : w.heap.size ≤ b := by
        rcases hown with h | h
        · cases h
        · exact h
      refine ⟨sat.df, _, results_run hr a.tmps w' g (fun _ => rfl) (fun _ _ => rfl) v1 (by simp [SV.vals_map, v4]), b, t', (β1 h).pre, (β1 h).post, ?_, hge, ?_, sat.fr⟩
      · simp [SV.vals, packR, SV.val, hb']
      · have h00 : (β1 0).v = v := by rw [hsame 0 (by show 0 < 1; omega)]; exact hv0
        rw [hblk]; simp [SV.vals, SV.val, h00]
    · exact hS.elim
  have hC : C.Ok := ⟨hE, hm, fun S a w' hat hS => ⟨hfin S a w' hat hS, hfin S a w' hat hS⟩, fun c a d v w h => ⟨by have h1 := h.1; cases d <;> exact h1, h.2⟩⟩
  refine calls_of_wp hf hb ?_
  have hW := h (WP C) (rules_wp hC)
  refine hW _ w ⟨⟨?_, fun t x h => (by cases h)⟩, Nat.le_refl _, β, ϕ, ⟨rfl, ?_, ?_, fun t g v h => (by cases h), e1', e2', Fr.refl _ _, hgl⟩, fun h _ => rfl⟩
  · intro t v ht
    simp only [lk] at ht
    split at ht
    · rename_i e; subst e; exact hkeep
    · cases ht
  · show (#[v] ++ Array.replicate (fn.ntmps - (#[v] : Array Value).size) undef).size = fn.ntmps
    simp; omega
  · intro t x ht
    simp only [lk] at ht
    split at ht
    · rename_i e
      cases ht
      subst e
      refine ⟨?_, by simp [SV.lt], trivial⟩
      show (#[v] ++ Array.replicate (fn.ntmps - (#[v] : Array Value).size) undef)[0]? = _
      rw [Array.getElem?_append_left (by simp)]
      simp [SV.val, hv0]
    · cases ht

theorem k_src (es : List PV) : ∀ (w : World) (v : Value) (f : List Nat), Lv w [.list (.int .u8)] [.list es] [v] f → GlOk w [] → Calls Tryz.prog 55 #[v] w fun e w' => SrcPost w v es e w' := by
  refine src_of_vc [0, 2] 2 (env_nil (tyTab_ok [])) mixed Tryz.func55 rfl rfl (by decide) rfl ?_
  intro W hW
  refine hW.vc [] _ _ ?_
  simp [-List.getD_eq_getElem?_getD, srcFin, seed0]

/-- What the maker makes of a state. -/
def sRes (N : Nat) (keep : List Nat) (S : St) (o : Oper) (K : St → Prop) : Prop :=
  match o.op with
  | .call c => (match c.callee, c.args.toList with
    | .value f, [x] => (match S.ev f, S.ev x with
      | some (true, .fn g []), some (true, .sl h) => (match lk S.A h with
        | some (.arr (.vw _) (.int .u8) es _) => g = 55 ∧ o.guard = none ∧ dstOk N keep true o.dst ∧
          K (putS keep S true o.dst ⟨True, True, .ptr S.n 0, (S.n, .box true 113 [.sl h, .int .i64 0, .int .i64 (seed0 es)]) :: S.A, S.n + 1⟩)
        | _ => False)
      | _, _ => False)
    | _, _ => False)
  | _ => False
structure SRules (N : Nat) (keep : List Nat) (W : List KI → St → Prop) : Prop where
  src : ∀ (all l : List Oper) (o : Oper) (k : List KI) (S : St), sRes N keep S o (fun S' => W (.run all l :: k) S') → W (.run all (o :: l) :: k) S
section
variable {C : Cx} {S : St} {a : Act} {w w' : World} {o : Oper} {all l : List Oper} {k : List KI}
theorem srules_wp (hC : C.Ok) (hP : C.P = Tryz.prog) : SRules C.N C.keep (WP C) := by
  refine ⟨fun all l o k S h a w hat => ?_⟩
  obtain ⟨kp, hn, β, ϕ, sat, h0⟩ := hat
  show wpList C.P all.toArray (xt C k) (o :: l) a w
  unfold wpList
  unfold sRes at h
  have hgd : o.guard = none → Region.wanted o (yielded all.toArray a.tmps) = true := fun hg => guard_sound (g := true) (by rw [hg]; rfl) sat
  split at h
  · rename_i c ho
    split at h
    · rename_i f x hc hargs
      split at h
      · rename_i g i hf hx
        split at h
        · rename_i rs es p hl
          obtain ⟨rfl, hg, hd, hk⟩ := h
          rw [if_pos (hgd hg)]
          obtain ⟨x1, x2⟩ := ev_sound hx sat
          have hxv := (x2 rfl).1
          have hilt : i < S.n := x1 rfl
          obtain ⟨_, f2⟩ := ev_sound hf sat
          obtain ⟨f3, _⟩ := f2 rfl
          have hrun := call_enter (P := C.P) (w := w) (ob := True) (vs := [.sl i]) ho hc f3 (by rw [hargs]; simp [SV.vals, hxv]) (by rw [hP]; exact Tryz.func55) (by kernel_rfl) (by kernel_rfl)
          have hLv : Lv w [.list (.int .u8)] [.list es] [(β i).v] (ϕ i) := sat.hp.sat _ _ hl
          refine .inl ?_
          unfold Oper.wp
          rw [hrun, Oper.upon_enter, hP]
          have hcall := k_src es w (β i).v (ϕ i) hLv (sat.gl.now sat.fr (by simp))
          have harr : (SV.vals β ([SV.sl i] ++ [])).toArray = #[(β i).v] := by simp [SV.vals, SV.val]
          rw [harr]
          refine hcall.mono fun e w' he => ?_
          obtain ⟨b, t, pre, post, rfl, hge, hblk, hF⟩ := he
          have hold : ∀ b, b < w.heap.size → w'.heap[b]? = w.heap[b]? := fun b hb => hF.block b hb (by simp)
          have hub : upd β S.n ⟨.pointer (some ⟨b, pre.length, none⟩), pre, post⟩ i = β i := upd_lt _ _ _ hilt
          have hadd := sat.hp.addNew (n := S.n) (hl0 := .box true 113 [.sl i, .int .i64 0, .int .i64 (seed0 es)]) (g := ⟨.pointer (some ⟨b, pre.length, none⟩), pre, post⟩) (f := [b]) (w' := w') sat.hb sat.fr hold rfl
            ⟨b, t, rfl, rfl, by rw [hblk]; simp [SV.vals, SV.val, hub]⟩ (by simpa using hge) trivial rfl trivial
          have hfr : Fr C.w0 C.X w' := sat.fr.trans hF (fun x hx => hx) (by simp)
          show wpList Tryz.prog all.toArray (xt C k) l (a.put o.dst (.pointer (some ⟨b, pre.length, none⟩))) w'
          rw [← hP]
          refine hk _ _ (at_taken (v := .pointer (some ⟨b, pre.length, none⟩)) kp hn sat h0 hd ⟨fun _ => ?_, fun h hh => upd_lt _ _ _ hh, hadd, hb_add sat.hb ?_, ?_, ?_, Nat.le_succ _, hfr⟩)
          · simp [SV.val, upd_eq]
          · refine ⟨⟨Nat.lt_succ_of_lt hilt, trivial, trivial, trivial⟩, trivial, ?_, ?_, trivial⟩
            · show inR .i64 0; decide
            · show inR .i64 (seed0 es)
              have : (seed0 es) < 1000 ∧ 0 ≤ seed0 es := ⟨by unfold seed0; exact Int.tmod_lt_of_pos _ (by decide), by unfold seed0; exact Int.tmod_nonneg _ (by omega)⟩
              simp [inR, IntKind.min, IntKind.max, IntKind.signed, IntKind.bits]; omega
          · show SV.lt _ (SV.ptr _ _)
            simp [SV.lt]
          · exact ⟨b, pre.length, by simp [upd_eq]⟩
        · exact h.elim
      · exact h.elim
    · exact h.elim
  · exact h.elim
end
theorem sG {N : Nat} {keep : List Nat} (C : Cx) (hC : C.Ok) (hP : C.P = Tryz.prog) (hN : C.N = N) (hk : C.keep = keep) : SRules N keep (WP C) := by
  subst hN hk
  exact srules_wp hC hP
end Go.Proofs.YtolgjekokdimoaaGreatDoor
end

section
namespace Go.Proofs.YtolgjekokdimoaaGreatDoor
variable [LaidG]
set_option maxRecDepth 100000
set_option linter.unusedSimpArgs false

def inB (n lo hi : Int) : Bool := decide (n ≥ lo) && decide (n ≤ hi)

def c_within : FSpec := ⟨[(.rd, .int .i64), (.rd, .int .i64), (.rd, .int .i64)], [.bool], true, fun _ => True, fun ps => [.bool (inB (nth ps 0).I (nth ps 1).I (nth ps 2).I)], fun _ => []⟩
theorem k_within : FnOk Tryz.prog 68 c_within := by
  refine fn_mk [0, 1, 2, 6] [.tmp 6] (env_nil (tyTab_ok [])) mixed Tryz.func68 rfl (by decide) rfl (by decide) rfl ?_
  intro ps hT hpre W hW
  simp only [c_within, TyA, Ty, Tys] at hT hpre
  obtain ⟨_, _, rfl, ⟨a, rfl, ha⟩, _, _, rfl, ⟨b, rfl, hb⟩, _, _, rfl, ⟨c, rfl, hc⟩, rfl⟩ := hT
  refine hW.vc [] _ _ ?_
  simp [-List.getD_eq_getElem?_getD, c_within, inB]
  try rfl

def c_l01In : FSpec := c_within
theorem k_l01In : FnOk Tryz.prog 70 c_l01In := by
  refine fn_mk [0, 1, 2, 6] [.tmp 6] (env_nil (tyTab_ok [])) mixed Tryz.func70 rfl (by decide) rfl (by decide) rfl ?_
  intro ps hT hpre W hW
  simp only [c_l01In, TyA, Ty, Tys] at hT hpre
  simp only [c_within, TyA, Ty] at hT
  obtain ⟨_, _, rfl, ⟨a, rfl, ha⟩, _, _, rfl, ⟨b, rfl, hb⟩, _, _, rfl, ⟨c, rfl, hc⟩, rfl⟩ := hT
  refine hW.vc [] _ _ ?_
  simp [-List.getD_eq_getElem?_getD, c_l01In, c_within, c_within, inB]
  try rfl

def sizeB (w h : Int) : Bool := inB w 2 24 && inB h 2 10
def c_isSize : FSpec := ⟨[(.rd, .int .i64), (.rd, .int .i64)], [.bool], true, fun _ => True, fun ps => [.bool (sizeB (nth ps 0).I (nth ps 1).I)], fun _ => []⟩
theorem k_isSize : FnOk Tryz.prog 65 c_isSize := by
  refine fn_mk [0, 1, 4] [.tmp 4] (env_cons (cs := []) k_within (env_nil (tyTab_ok []))) mixed Tryz.func65 rfl (by decide) rfl (by decide) rfl ?_
  intro ps hT hpre W hW
  simp only [c_isSize, TyA, Ty, Tys] at hT hpre
  obtain ⟨_, _, rfl, ⟨a, rfl, ha⟩, _, _, rfl, ⟨b, rfl, hb⟩, rfl⟩ := hT
  refine hW.vc [] _ _ ?_
  simp [-List.getD_eq_getElem?_getD, c_isSize, c_within, sizeB]

def c_l04Size : FSpec := c_isSize
theorem k_l04Size : FnOk Tryz.prog 71 c_l04Size := by
  refine fn_mk [0, 1, 4] [.tmp 4] (env_cons (cs := []) k_l01In (env_nil (tyTab_ok []))) mixed Tryz.func71 rfl (by decide) rfl (by decide) rfl ?_
  intro ps hT hpre W hW
  simp only [c_l04Size, TyA, Ty, Tys] at hT hpre
  simp only [c_isSize, TyA, Ty] at hT
  obtain ⟨_, _, rfl, ⟨a, rfl, ha⟩, _, _, rfl, ⟨b, rfl, hb⟩, rfl⟩ := hT
  refine hW.vc [] _ _ ?_
  simp [-List.getD_eq_getElem?_getD, c_l04Size, c_l01In, c_isSize, c_within, c_within, c_isSize, sizeB]

end Go.Proofs.YtolgjekokdimoaaGreatDoor
end

section
namespace Go.Proofs.YtolgjekokdimoaaGreatDoor
variable [LaidG]
set_option maxRecDepth 100000
set_option linter.unusedSimpArgs false

/-- A source's place and seed. -/
structure Src where
  p : Int
  q : Int
@[simp] theorem Src.eta (s : Src) : (⟨s.p, s.q⟩ : Src) = s := rfl
def srcOk (p q k : Int) : Prop := 0 ≤ p ∧ p + k ≤ 1000000000000000000 ∧ 0 ≤ q ∧ q < 2147483648
def codeOk (es : List PV) : Prop := ∀ e ∈ es, 0 ≤ e.I ∧ e.I ≤ 255
theorem codeOk_ty {es : List PV} (h : ∀ e ∈ es, ∃ n, e = .int .u8 n ∧ inR .u8 n) : codeOk es := by
  intro e he
  obtain ⟨n, rfl, hn⟩ := h e he
  simpa [inR, IntKind.min, IntKind.max, IntKind.signed, IntKind.bits, PV.I] using hn
/-- One byte. -/
def srcB (es : List PV) (s : Src) : Int × Src :=
  if s.p + 1 ≤ es.length then ((nth es s.p.toNat).I, ⟨s.p + 1, (s.q * 31 + (nth es s.p.toNat).I + 7).tmod 2147483648⟩)
  else if 3000 < s.p + 1 then (0, ⟨s.p + 1, s.q⟩)
  else (((((s.q * 1103515245 + 12345).tmod 2147483648).tdiv 65536).tmod 256), ⟨s.p + 1, (s.q * 1103515245 + 12345).tmod 2147483648⟩)
theorem tm_ok (a b : Int) (ha : 0 ≤ a) (hb : 0 < b) : 0 ≤ a.tmod b ∧ a.tmod b < b := ⟨Int.tmod_nonneg _ ha, Int.tmod_lt_of_pos _ hb⟩
theorem srcB_ok {es : List PV} {s : Src} {k : Int} (hc : codeOk es) (h : srcOk s.p s.q k) (hk : 1 ≤ k) : srcOk (srcB es s).2.p (srcB es s).2.q (k - 1) ∧ 0 ≤ (srcB es s).1 ∧ (srcB es s).1 ≤ 255 := by
  obtain ⟨h1, h2, h3, h4⟩ := h
  unfold srcB
  split
  · rename_i hl
    have := hc _ (nth_mem (show s.p.toNat < es.length by omega))
    have := tm_ok (s.q * 31 + (nth es s.p.toNat).I + 7) 2147483648 (by omega) (by omega)
    exact ⟨⟨by simp only; omega, by simp only; omega, this.1, this.2⟩, by omega, by omega⟩
  · split
    · exact ⟨⟨by simp only; omega, by simp only; omega, h3, h4⟩, by simp, by simp⟩
    · have := tm_ok (s.q * 1103515245 + 12345) 2147483648 (by omega) (by omega)
      have h5 := tm_ok (((s.q * 1103515245 + 12345).tmod 2147483648).tdiv 65536) 256 (Int.tdiv_nonneg this.1 (by omega)) (by omega)
      exact ⟨⟨by simp only; omega, by simp only; omega, this.1, this.2⟩, h5.1, by simp only; omega⟩
/-- One of 0 to n - 1. -/
def srcN (es : List PV) (s : Src) (n : Int) : Int × Src :=
  if n ≤ 1 then (0, s) else if n ≤ 256 then ((srcB es s).1.tmod n, (srcB es s).2)
  else ((((srcB es s).1 * 65536 + (srcB es (srcB es s).2).1 * 256 + (srcB es (srcB es (srcB es s).2).2).1).tmod n), (srcB es (srcB es (srcB es s).2).2).2)
theorem srcOk.mono {p q k k' : Int} (h : srcOk p q k) (hk : k' ≤ k) : srcOk p q k' := ⟨h.1, by have := h.2.1; omega, h.2.2⟩
theorem srcN_ok {es : List PV} {s : Src} {n k : Int} (hc : codeOk es) (h : srcOk s.p s.q k) (hk : 3 ≤ k) : srcOk (srcN es s n).2.p (srcN es s n).2.q (k - 3) ∧ 0 ≤ (srcN es s n).1 ∧ (1 ≤ n → (srcN es s n).1 < n) := by
  obtain ⟨a1, a2, a3⟩ := srcB_ok hc h (by omega)
  unfold srcN
  split
  · exact ⟨h.mono (by omega), by simp, by simp only; omega⟩
  · split
    · have := tm_ok (srcB es s).1 n a2 (by omega)
      exact ⟨a1.mono (by omega), this.1, fun _ => this.2⟩
    · obtain ⟨b1, b2, b3⟩ := srcB_ok hc a1 (by omega)
      obtain ⟨c1, c2, c3⟩ := srcB_ok hc b1 (by omega)
      have := tm_ok ((srcB es s).1 * 65536 + (srcB es (srcB es s).2).1 * 256 + (srcB es (srcB es (srcB es s).2).2).1) n (by omega) (by omega)
      exact ⟨c1.mono (by omega), this.1, fun _ => this.2⟩
def c_srcByte : FSpec := ⟨[(.bs, .box [.list (.int .u8), .int .i64, .int .i64])], [.int .i64], true, fun ps => srcOk (nth (nth ps 0).A 1).I (nth (nth ps 0).A 2).I 1,
  fun ps => [.int .i64 (srcB (nth (nth ps 0).A 0).L ⟨(nth (nth ps 0).A 1).I, (nth (nth ps 0).A 2).I⟩).1],
  fun ps => [.agg [.list [], .int .i64 (srcB (nth (nth ps 0).A 0).L ⟨(nth (nth ps 0).A 1).I, (nth (nth ps 0).A 2).I⟩).2.p, .int .i64 (srcB (nth (nth ps 0).A 0).L ⟨(nth (nth ps 0).A 1).I, (nth (nth ps 0).A 2).I⟩).2.q]]⟩
theorem k_srcByte : FnOk Tryz.prog 128 c_srcByte := by
  refine fn_mk [0, 2] [.tmp 2] (env_nil (tyTab_ok [])) mixed Tryz.func128 rfl (by decide) rfl (by decide) rfl ?_
  intro ps hT hpre W hW
  simp only [c_srcByte, TyA, Ty, Tys] at hT hpre
  obtain ⟨_, _, rfl, ⟨_, rfl, _, _, rfl, ⟨es, rfl, hes, tes⟩, _, _, rfl, ⟨p, rfl, hp⟩, _, _, rfl, ⟨q, rfl, hq⟩, rfl⟩, rfl⟩ := hT
  simp only [nth_zero, nth_succ, pv_A, pv_I] at hpre
  obtain ⟨h1, h2, h3, h4⟩ := hpre
  refine hW.vc [(2, [], .take 0 <| .take 1 <| .take 2 <| .take 3 <| .take 4 <| .take 5 <| .take 6 <| .take 7 <| .take 8 <| .take 9 <| .done), (3, [23], .take 0 <| .take 1 <| .take 2 <| .take 3 <| .take 4 <| .take 5 <| .take 6 <| .take 7 <| .take 8 <| .take 9 <| .take 10 <| .take 11 <| .take 12 <| .take 13 <| .take 14 <| .take 15 <| .take 16 <| .take 17 <| .take 18 <| .take 19 <| .take 20 <| .take 21 <| .take 22 <| .alt 23 (.done) .stop), (4, [], .take 0 <| .take 1 <| .take 2 <| .take 3 <| .take 4 <| .take 5 <| .take 6 <| .take 7 <| .take 8 <| .take 9 <| .take 10 <| .take 11 <| .alt 12 (.done) .stop)] _ _ ?_
  simp [-List.getD_eq_getElem?_getD, c_srcByte]
  have hc := codeOk_ty ‹_›
  rw [wrap64 (n := p + 1) (by omega), show p + 1 - 1 = p by omega, wrap64 (n := p) (by omega), wrap64 (n := q * 31) (by omega), wrap64 (n := q * 1103515245) (by omega), wrap64 (n := q * 1103515245 + 12345) (by omega)]
  refine ⟨by decide +kernel, fun _ => ⟨fun h5 => ⟨by decide +kernel, ⟨by omega, by omega⟩, by omega, fun _ => ⟨by decide +kernel, ⟨by omega, by omega⟩, by omega, fun _ => ?_⟩⟩, fun h5 => ⟨fun h6 => ?_, fun h6 => ?_⟩⟩⟩
  · have h7 := hc _ (nth_mem (show p.toNat < es.length by omega))
    rw [wrap64 (n := (nth es p.toNat).I) (by omega), wrap64 (n := q * 31 + (nth es p.toNat).I) (by omega), wrap64 (n := q * 31 + (nth es p.toNat).I + 7) (by omega)]
    simp [srcB, h5]
  · simp [srcB, h6, show ¬ p + 1 ≤ (es.length : Int) by omega]
  · have h7 := tm_ok (q * 1103515245 + 12345) 2147483648 (by omega) (by omega)
    have h8 := Int.tdiv_nonneg h7.1 (show (0 : Int) ≤ 65536 by omega)
    have h9 := Int.tdiv_le_self 65536 h7.1
    rw [wrap64 (n := ((q * 1103515245 + 12345).tmod 2147483648).tdiv 65536) (by omega)]
    simp [srcB, show ¬ 3000 < p + 1 by omega, show ¬ p + 1 ≤ (es.length : Int) by omega]
def c_srcNext : FSpec := ⟨[(.bs, .box [.list (.int .u8), .int .i64, .int .i64]), (.rd, .int .i64)], [.int .i64], true, fun ps => srcOk (nth (nth ps 0).A 1).I (nth (nth ps 0).A 2).I 3,
  fun ps => [.int .i64 (srcN (nth (nth ps 0).A 0).L ⟨(nth (nth ps 0).A 1).I, (nth (nth ps 0).A 2).I⟩ (nth ps 1).I).1],
  fun ps => [.agg [.list [], .int .i64 (srcN (nth (nth ps 0).A 0).L ⟨(nth (nth ps 0).A 1).I, (nth (nth ps 0).A 2).I⟩ (nth ps 1).I).2.p, .int .i64 (srcN (nth (nth ps 0).A 0).L ⟨(nth (nth ps 0).A 1).I, (nth (nth ps 0).A 2).I⟩ (nth ps 1).I).2.q]]⟩
theorem k_srcNext : FnOk Tryz.prog 99 c_srcNext := by
  refine fn_mk [0, 1, 4, 5, 6, 7] [.tmp 4] (env_cons (cs := []) k_srcByte (env_nil (tyTab_ok []))) mixed Tryz.func99 rfl (by decide) rfl (by decide) rfl ?_
  intro ps hT hpre W hW
  simp only [c_srcNext, TyA, Ty, Tys] at hT hpre
  obtain ⟨_, _, rfl, ⟨_, rfl, _, _, rfl, ⟨es, rfl, hes, tes⟩, _, _, rfl, ⟨p, rfl, hp⟩, _, _, rfl, ⟨q, rfl, hq⟩, rfl⟩, _, _, rfl, ⟨n, rfl, hn⟩, rfl⟩ := hT
  simp only [nth_zero, nth_succ, pv_A, pv_I] at hpre
  refine hW.vc [] _ _ ?_
  simp [-List.getD_eq_getElem?_getD, c_srcNext, c_srcByte]
  have hc := codeOk_ty ‹_›
  have hb := srcB_ok (s := ⟨p, q⟩) hc hpre (by omega)
  have hb2 := srcB_ok hc hb.1 (by omega)
  have hb3 := srcB_ok hc hb2.1 (by omega)
  refine ⟨fun h => by simp [srcN, h], fun h => ⟨fun h2 => ⟨hpre.mono (by omega), by omega, by simp [srcN, h2, show ¬ n ≤ 1 by omega]⟩, fun h2 => ⟨hpre.mono (by omega), hb.1.mono (by omega), hb2.1.mono (by omega), by omega, ?_⟩⟩⟩
  rw [wrap64 (n := (srcB es ⟨p, q⟩).1 * 65536) (by omega), wrap64 (n := (srcB es (srcB es ⟨p, q⟩).2).1 * 256) (by omega), wrap64 (n := (srcB es ⟨p, q⟩).1 * 65536 + (srcB es (srcB es ⟨p, q⟩).2).1 * 256) (by omega), wrap64 (n := (srcB es ⟨p, q⟩).1 * 65536 + (srcB es (srcB es ⟨p, q⟩).2).1 * 256 + (srcB es (srcB es (srcB es ⟨p, q⟩).2).2).1) (by omega)]
  simp [srcN, show ¬ n ≤ 1 by omega, show ¬ n ≤ 256 by omega]
/-- Some bytes more. -/
def srcL (es : List PV) : Nat → Src → List PV → List PV × Src
  | 0, s, acc => (acc, s)
  | k + 1, s, acc => srcL es k (srcN es s 256).2 (acc ++ [.int .u8 (IntKind.u8.wrap (srcN es s 256).1)])
/-- Up to n bytes. -/
def srcBs (es : List PV) (s : Src) (n : Int) : List PV × Src := srcL es (srcN es s (n + 1)).1.toNat (srcN es s (n + 1)).2 []
def c_srcBytes : FSpec := ⟨[(.bs, .box [.list (.int .u8), .int .i64, .int .i64]), (.rd, .int .i64)], [.list (.int .u8)], true, fun ps => srcOk (nth (nth ps 0).A 1).I (nth (nth ps 0).A 2).I 30000 ∧ 0 ≤ (nth ps 1).I ∧ (nth ps 1).I ≤ 9000,
  fun ps => [.list (srcBs (nth (nth ps 0).A 0).L ⟨(nth (nth ps 0).A 1).I, (nth (nth ps 0).A 2).I⟩ (nth ps 1).I).1],
  fun ps => [.agg [.list [], .int .i64 (srcBs (nth (nth ps 0).A 0).L ⟨(nth (nth ps 0).A 1).I, (nth (nth ps 0).A 2).I⟩ (nth ps 1).I).2.p, .int .i64 (srcBs (nth (nth ps 0).A 0).L ⟨(nth (nth ps 0).A 1).I, (nth (nth ps 0).A 2).I⟩ (nth ps 1).I).2.q]]⟩
theorem k_srcBytes : FnOk Tryz.prog 56 c_srcBytes := by
  refine fn_mk [0, 1, 4, 5, 6] [.tmp 4] (env_cons (cs := []) k_srcNext (env_nil (tyTab_ok []))) mixed Tryz.func56 rfl (by decide) rfl (by decide) rfl ?_
  intro ps hT hpre W hW
  simp only [c_srcBytes, TyA, Ty, Tys] at hT hpre
  obtain ⟨_, _, rfl, ⟨_, rfl, _, _, rfl, ⟨es, rfl, hes, tes⟩, _, _, rfl, ⟨p, rfl, hp⟩, _, _, rfl, ⟨q, rfl, hq⟩, rfl⟩, _, _, rfl, ⟨n, rfl, hn⟩, rfl⟩ := hT
  simp only [nth_zero, nth_succ, pv_A, pv_I] at hpre
  obtain ⟨h1, h2, h3⟩ := hpre
  refine hW.vc [] _ _ ?_
  simp [-List.getD_eq_getElem?_getD, c_srcBytes, c_srcNext]
  rw [wrap64 (n := n + 1) (by omega)]
  have hc := codeOk_ty ‹_›
  have hn := srcN_ok (s := ⟨p, q⟩) (n := n + 1) hc h1 (by omega)
  refine ⟨h1.mono (by omega), ?_⟩
  generalize hs : srcN es ⟨p, q⟩ (n + 1) = r at *
  refine hW.loopS _ _ _ [.bs 0 [.list (.int .u8), .int .i64, .int .i64], .sl 5 .dp (.list (.int .u8)), .sl 6 .dp (.int .i64)] (fun ys => ∃ (k : Nat) (s : Src) (acc : List PV), ys = [.agg [.list es, .int .i64 s.p, .int .i64 s.q], .list acc, .int .i64 k] ∧ srcOk s.p s.q (3 * k) ∧ acc.length + k ≤ 9000 ∧ srcL es r.1.toNat r.2 [] = srcL es k s acc) (fun ys => (nth ys 2).I.toNat) ?_ ?_
  · simp [-List.getD_eq_getElem?_getD, c_srcBytes, c_srcNext]
    have hr := hn.2.2 (by omega)
    exact ⟨r.1.toNat, r.2, [], ⟨⟨rfl, rfl⟩, rfl, by omega⟩, hn.1.mono (by omega), by simp; omega, rfl⟩
  · rintro ys ⟨k, s, acc, rfl, g1, g2, g3⟩
    refine hW.vc [] _ _ ?_
    simp [-List.getD_eq_getElem?_getD, c_srcBytes, c_srcNext]
    refine ⟨fun h => ⟨g1.mono (by omega), by omega, fun _ => ⟨⟨k - 1, (srcN es s 256).2, _, ⟨⟨rfl, rfl⟩, rfl, ?_⟩, (srcN_ok hc g1 (by omega)).1.mono (by omega), by simp; omega, ?_⟩, ?_⟩⟩, fun h => ?_⟩
    · rw [wrap64 (n := (k : Int) - 1) (by omega)]; omega
    · rw [g3]
      obtain ⟨m, rfl⟩ : ∃ m, k = m + 1 := ⟨k - 1, by omega⟩
      rfl
    · rw [wrap64 (n := (k : Int) - 1) (by omega)]; omega
    · subst h
      have e : srcBs es ⟨p, q⟩ n = (acc, s) := by unfold srcBs; rw [hs, g3]; rfl
      rw [e]; exact ⟨rfl, rfl, rfl⟩
def c_BytesOf : FSpec := ⟨[(.rd, .list (.int .u8)), (.rd, .int .i64)], [.list (.int .u8)], true, fun ps => 0 ≤ (nth ps 1).I ∧ (nth ps 1).I ≤ 9000, fun ps => [.list (srcBs (nth ps 0).L ⟨0, seed0 (nth ps 0).L⟩ (nth ps 1).I).1], fun _ => []⟩
theorem k_BytesOf : FnOk Tryz.prog 20 c_BytesOf := by
  refine fn_mkG [0, 1, 4] [.tmp 4] _ sG (env_cons (cs := []) k_srcBytes (env_nil (tyTab_ok []))) mixed Tryz.func20 rfl (by decide) rfl (by decide) rfl ?_
  intro ps hT hpre W hW hB
  simp only [c_BytesOf, TyA, Ty, Tys] at hT hpre
  obtain ⟨_, _, rfl, ⟨es, rfl, hes, tes⟩, _, _, rfl, ⟨n, rfl, hn⟩, rfl⟩ := hT
  simp only [nth_zero, nth_succ, pv_A, pv_I] at hpre
  refine hW.vc [] _ _ ?_
  simp [-List.getD_eq_getElem?_getD, c_BytesOf, c_srcBytes]
  refine hB.src _ _ _ _ _ ?_
  simp [sRes, -List.getD_eq_getElem?_getD, c_BytesOf, c_srcBytes]
  refine hW.vc [] _ _ ?_
  simp [-List.getD_eq_getElem?_getD, c_BytesOf, c_srcBytes]
  have h := tm_ok (es.length : Int) 1000 (by omega) (by omega)
  exact ⟨⟨by omega, by omega, h.1, Int.lt_trans h.2 (by omega)⟩, hpre.1, hpre.2⟩

end Go.Proofs.YtolgjekokdimoaaGreatDoor
end

section
namespace Go.Proofs.YtolgjekokdimoaaGreatDoor
variable [LaidG]
set_option maxRecDepth 100000
set_option linter.unusedSimpArgs false

/-- A word turned right. -/
def rotI (x by_ : Int) : Int := orI .u32 (shlI .u32 x (32 - by_)) (shrI .u32 x by_)
theorem orI_comm (k : IntKind) (a b : Int) : orI k a b = orI k b a := by unfold orI; rw [BitVec.or_comm]

def c_Rotate : FSpec := ⟨[(.rd, .int .u32), (.rd, .int .i64)], [.int .u32], true, fun ps => -32 < (nth ps 1).I ∧ (nth ps 1).I < 0, fun ps => [.int .u32 (rotI (nth ps 0).I (-(nth ps 1).I))], fun _ => []⟩
theorem k_Rotate : FnOk Tryz.prog 222 c_Rotate := by
  refine fn_mk [0, 1, 4, 5] [.tmp 4] (env_nil (tyTab_ok [])) mixed Tryz.func222 rfl (by decide) rfl (by decide) rfl ?_
  intro ps hT hpre W hW
  simp only [c_Rotate, TyA, Ty, Tys] at hT hpre
  obtain ⟨_, _, rfl, ⟨x, rfl, hx⟩, _, _, rfl, ⟨b, rfl, hb⟩, rfl⟩ := hT
  simp only [nth_zero, nth_succ, pv_I] at hpre
  obtain ⟨p1, p2⟩ := hpre
  have key : ∀ n : Fin 32, 0 < n.1 → andI .u64 (IntKind.u64.wrap (-(n.1 : Int))) 31 = 32 - n.1 := by decide
  have h1 := key ⟨(-b).toNat, by omega⟩ (by simp only; omega)
  simp only at h1
  have e : (((-b).toNat : Nat) : Int) = -b := by omega
  rw [e, Int.neg_neg] at h1
  refine hW.vc [] _ _ ?_
  simp [-List.getD_eq_getElem?_getD, c_Rotate]
  rw [h1, wrapU64 (by omega)]
  have e3 : (32 : Int) - (32 - -b) = -b := by omega
  rw [e3]
  exact ⟨by omega, by omega, rfl⟩

def c_turned : FSpec := ⟨[(.rd, .int .u32), (.rd, .int .i64)], [.int .u32], true, fun ps => 0 < (nth ps 1).I ∧ (nth ps 1).I < 32, fun ps => [.int .u32 (rotI (nth ps 0).I (nth ps 1).I)], fun _ => []⟩
theorem k_turned : FnOk Tryz.prog 189 c_turned := by
  refine fn_mk [0, 1, 4] [.tmp 4] (env_cons (cs := []) k_Rotate (env_nil (tyTab_ok []))) mixed Tryz.func189 rfl (by decide) rfl (by decide) rfl ?_
  intro ps hT hpre W hW
  simp only [c_turned, TyA, Ty, Tys] at hT hpre
  obtain ⟨_, _, rfl, ⟨x, rfl, hx⟩, _, _, rfl, ⟨b, rfl, hb⟩, rfl⟩ := hT
  simp only [nth_zero, nth_succ, pv_I] at hpre
  obtain ⟨p1, p2⟩ := hpre
  refine hW.vc [] _ _ ?_
  simp [-List.getD_eq_getElem?_getD, c_turned, c_Rotate]
  rw [wrap64 (by omega), Int.neg_neg]
  exact ⟨⟨by omega, by omega⟩, rfl⟩

def c_l01Turn : FSpec := ⟨[(.rd, .int .u32), (.rd, .int .u64)], [.int .u32], true, fun ps => 0 < (nth ps 1).I ∧ (nth ps 1).I < 32, fun ps => [.int .u32 (rotI (nth ps 0).I (nth ps 1).I)], fun _ => []⟩
theorem k_l01Turn : FnOk Tryz.prog 210 c_l01Turn := by
  refine fn_mk [0, 1, 4] [.tmp 4] (env_nil (tyTab_ok [])) mixed Tryz.func210 rfl (by decide) rfl (by decide) rfl ?_
  intro ps hT hpre W hW
  simp only [c_l01Turn, TyA, Ty, Tys] at hT hpre
  obtain ⟨_, _, rfl, ⟨x, rfl, hx⟩, _, _, rfl, ⟨b, rfl, hb⟩, rfl⟩ := hT
  simp only [nth_zero, nth_succ, pv_I] at hpre
  obtain ⟨p1, p2⟩ := hpre
  refine hW.vc [] _ _ ?_
  simp [-List.getD_eq_getElem?_getD, c_l01Turn]
  rw [wrapU64 (by omega)]
  exact ⟨by omega, by omega, by rw [rotI, orI_comm]⟩

end Go.Proofs.YtolgjekokdimoaaGreatDoor
end

section
namespace Go.Proofs.YtolgjekokdimoaaGreatDoor
variable [LaidG]
set_option maxRecDepth 100000
set_option linter.unusedSimpArgs false

def w32 (n : Int) : Int := IntKind.u32.wrap n
def notI (x : Int) : Int := xorI .u32 4294967295 x
def sgm (x a b c : Int) : Int := xorI .u32 (xorI .u32 (rotI x a) (rotI x b)) (rotI x c)
def sgs (x a b c : Int) : Int := xorI .u32 (xorI .u32 (rotI x a) (rotI x b)) (shrI .u32 x c)
def chI (e f g : Int) : Int := orI .u32 (andI .u32 e f) (andI .u32 (notI e) g)
def majI (a b c : Int) : Int := orI .u32 (orI .u32 (andI .u32 a b) (andI .u32 a c)) (andI .u32 b c)

/-- Words behind IntKind's numbers. -/
theorem bv_u32 (x : BitVec 32) : BitVec.ofInt 32 (IntKind.u32.wrap (x.toNat : Int)) = x := by
  have h : IntKind.u32.wrap (x.toNat : Int) = x.toNat := by
    have := x.isLt
    simp [IntKind.wrap, IntKind.signed, IntKind.bits]; omega
  rw [h]; simp
theorem xor32 (a b : Int) : xorI .u32 a b = IntKind.u32.wrap ((BitVec.ofInt 32 a ^^^ BitVec.ofInt 32 b).toNat : Int) := rfl
theorem or32 (a b : Int) : orI .u32 a b = IntKind.u32.wrap ((BitVec.ofInt 32 a ||| BitVec.ofInt 32 b).toNat : Int) := rfl
theorem and32 (a b : Int) : andI .u32 a b = IntKind.u32.wrap ((BitVec.ofInt 32 a &&& BitVec.ofInt 32 b).toNat : Int) := rfl
theorem ch_xor (e f g : Int) : xorI .u32 (andI .u32 e f) (andI .u32 (notI e) g) = chI e f g := by
  simp only [chI, notI, xor32, or32, and32, bv_u32]
  refine congrArg (fun x : BitVec 32 => IntKind.u32.wrap (x.toNat : Int)) ?_
  ext i hi
  simp only [BitVec.getElem_xor, BitVec.getElem_or, BitVec.getElem_and]
  have hm : (BitVec.ofInt 32 4294967295)[i] = true := by
    have : BitVec.ofInt 32 4294967295 = BitVec.allOnes 32 := by decide
    rw [this, BitVec.getElem_allOnes]
  rw [hm]
  cases (BitVec.ofInt 32 e)[i] <;> cases (BitVec.ofInt 32 f)[i] <;> cases (BitVec.ofInt 32 g)[i] <;> rfl
theorem maj_xor (a b c : Int) : xorI .u32 (xorI .u32 (andI .u32 a b) (andI .u32 a c)) (andI .u32 b c) = majI a b c := by
  simp only [majI, xor32, or32, and32, bv_u32]
  refine congrArg (fun x : BitVec 32 => IntKind.u32.wrap (x.toNat : Int)) ?_
  ext i hi
  simp only [BitVec.getElem_xor, BitVec.getElem_or, BitVec.getElem_and]
  cases (BitVec.ofInt 32 a)[i] <;> cases (BitVec.ofInt 32 b)[i] <;> cases (BitVec.ofInt 32 c)[i] <;> rfl

/-- The word at a place of a block of bytes. -/
def wrdI (f : Nat → Int) (j : Nat) : Int := orI .u32 (orI .u32 (orI .u32 (shlI .u32 (f (4 * j)) 24) (shlI .u32 (f (4 * j + 1)) 16)) (shlI .u32 (f (4 * j + 2)) 8)) (f (4 * j + 3))
def nxtI (l : List PV) (n : Nat) : Int := w32 (w32 (w32 ((nth l (n - 16)).I + sgs (nth l (n - 15)).I 7 18 3) + (nth l (n - 7)).I) + sgs (nth l (n - 2)).I 17 19 10)
/-- The first words. -/
def schP (f : Nat → Int) : Nat → List PV
  | 0 => []
  | n + 1 => schP f n ++ [.int .u32 (if n < 16 then wrdI f n else nxtI (schP f n) n)]
theorem schP_len (f : Nat → Int) : ∀ n, (schP f n).length = n
  | 0 => rfl
  | n + 1 => by rw [schP, List.length_append, schP_len f n]; rfl

/-- Eight words. -/
structure S8 where
  a : Int
  b : Int
  c : Int
  d : Int
  e : Int
  f : Int
  g : Int
  h : Int
def S8.p (s : S8) (k w : Int) : Int := w32 (w32 (w32 (w32 (s.h + sgm s.e 6 11 25) + chI s.e s.f s.g) + k) + w)
def S8.q (s : S8) : Int := w32 (sgm s.a 2 13 22 + majI s.a s.b s.c)
def S8.step (s : S8) (k w : Int) : S8 := ⟨w32 (s.p k w + s.q), s.a, s.b, s.c, w32 (s.d + s.p k w), s.e, s.f, s.g⟩
def S8.pv (s : S8) : List PV := [.int .u32 s.a, .int .u32 s.b, .int .u32 s.c, .int .u32 s.d, .int .u32 s.e, .int .u32 s.f, .int .u32 s.g, .int .u32 s.h]
def s8Of (v : List PV) : S8 := ⟨(nth v 0).I, (nth v 1).I, (nth v 2).I, (nth v 3).I, (nth v 4).I, (nth v 5).I, (nth v 6).I, (nth v 7).I⟩
def rnds (K W : List PV) (s : S8) : Nat → S8
  | 0 => s
  | n + 1 => (rnds K W s n).step (nth K n).I (nth W n).I
/-- The first of the sums of two rows. -/
def addP (v r : List PV) : Nat → List PV
  | 0 => []
  | n + 1 => addP v r n ++ [.int .u32 (w32 ((nth v n).I + (nth r n).I))]
theorem addP_len (v r : List PV) : ∀ n, (addP v r n).length = n
  | 0 => rfl
  | n + 1 => by rw [addP, List.length_append, addP_len v r n]; rfl
/-- The state behind a block. -/
def blkP (K : List PV) (v : List PV) (f : Nat → Int) : List PV := addP v (rnds K (schP f 64) (s8Of v) 64).pv 8
theorem blkP_len (K v : List PV) (f : Nat → Int) : (blkP K v f).length = 8 := addP_len _ _ 8

theorem set_at {l : List PV} {z x : PV} {i m : Nat} (hl : l.length = i) (hm : i < m) : (l ++ List.replicate (m - i) z).set i x = (l ++ [x]) ++ List.replicate (m - (i + 1)) z := by
  have e : m - i = (m - (i + 1)) + 1 := by omega
  rw [e, List.replicate_succ, List.set_append_right _ _ (by omega), hl, Nat.sub_self, List.set_cons_zero, List.append_assoc]
  rfl
theorem nth_left {l r : List PV} {i : Nat} (h : i < l.length) : nth (l ++ r) i = nth l i := by simp [nth, List.getElem?_append_left h]

theorem drop_set {a st : List PV} {x : PV} {i : Nat} (ha : a.length = i) (hi : i < st.length) : (a ++ st.drop i).set i x = (a ++ [x]) ++ st.drop (i + 1) := by
  rw [drop_nth hi, List.set_append_right _ _ (by omega), ha, Nat.sub_self, List.set_cons_zero, List.append_assoc]; rfl
theorem drop_at {a st : List PV} {i : Nat} (ha : a.length = i) (hi : i < st.length) : nth (a ++ st.drop i) i = nth st i := by
  rw [drop_nth hi, ← ha]; simp [nth]
theorem pv_getD (s : S8) : ∀ {i : Nat}, i < 8 → [s.a, s.b, s.c, s.d, s.e, s.f, s.g, s.h].getD i 0 = (nth s.pv i).I
  | 0, _ | 1, _ | 2, _ | 3, _ | 4, _ | 5, _ | 6, _ | 7, _ => rfl
  | n + 8, h => by omega

end Go.Proofs.YtolgjekokdimoaaGreatDoor
end

section
namespace Go.Proofs.YtolgjekokdimoaaGreatDoor
variable [LaidG]
variable [LaidN 0] [LaidN 1]
set_option maxRecDepth 100000
set_option linter.unusedSimpArgs false

def byteF (l : List UInt8) (k : Nat) : Int := ((l.getD k 0).toNat : Int)
theorem wB (x : UInt8) : IntKind.u32.wrap (x.toNat : Int) = x.toNat := by
  have := x.toNat_lt
  simp [IntKind.wrap, IntKind.signed, IntKind.bits]; omega
def c_hashBlock : FSpec := ⟨[(.bx, .abx (.int .u32)), (.rd, .str)], [], true, fun ps => (nth ps 0).L.length = 8 ∧ (nth ps 1).S.length = 64, fun _ => [], fun ps => [.list (blkP G1 (nth ps 0).L (byteF (nth ps 1).S))]⟩
set_option maxHeartbeats 4000000 in
theorem k_hashBlock : FnOk Tryz.prog 159 c_hashBlock := by
  refine fn_mk [0, 1, 4, 5, 6, 7, 8, 9, 10, 11, 12, 13, 14, 15, 16, 17, 18, 19, 20, 21, 127, 198, 199] [] (env_cons (cs := []) k_turned (env_nil (tyTab_ok []))) mixed Tryz.func159 rfl (by decide) rfl (by decide) rfl ?_
  intro ps hT hpre W hW
  simp only [c_hashBlock, TyA, Ty, Tys] at hT hpre
  obtain ⟨_, _, rfl, ⟨st, rfl, tst⟩, _, _, rfl, ⟨b, rfl, hb⟩, rfl⟩ := hT
  simp only [nth_zero, nth_succ, pv_L, pv_S] at hpre
  obtain ⟨p1, p2⟩ := hpre
  refine hW.vc [] _ _ ?_
  simp [-List.getD_eq_getElem?_getD, c_hashBlock, c_turned]
  refine hW.cutS [_, _] _ _ [.ax 4, .sl 21 .dp (.int .i64)] (fun ys => ys = [.list (schP (byteF b) 64), .int .i64 64]) ?_ ?_
  · refine hW.loopS _ _ _ [.ax 4, .sl 21 .dp (.int .i64)] (fun ys => ∃ i : Nat, ys = [.list (schP (byteF b) i ++ List.replicate (64 - i) (.int .u32 0)), .int .i64 i] ∧ i ≤ 64) (fun ys => 64 - (nth ys 1).I.toNat) ?_ ?_
    · simp [-List.getD_eq_getElem?_getD, c_hashBlock, c_turned]
      exact ⟨0, ⟨rfl, rfl⟩, by omega⟩
    · rintro ys ⟨i, rfl, g1⟩
      refine hW.vc [(5, [31], .take 0 <| .take 1 <| .take 2 <| .take 3 <| .take 4 <| .take 5 <| .take 6 <| .take 7 <| .take 8 <| .take 9 <| .take 10 <| .take 11 <| .take 12 <| .take 13 <| .take 14 <| .take 15 <| .take 16 <| .take 17 <| .take 18 <| .take 19 <| .take 20 <| .take 21 <| .take 22 <| .take 23 <| .take 24 <| .take 25 <| .take 26 <| .take 27 <| .take 28 <| .take 29 <| .take 30 <| .alt 31 (.done) .stop), (6, [], .take 0 <| .take 1 <| .take 2 <| .take 3 <| .take 4 <| .take 5 <| .take 6 <| .take 7 <| .alt 8 (.alt 9 (.done) .stop) .stop), (7, [29], .take 0 <| .take 1 <| .take 2 <| .take 3 <| .take 4 <| .take 5 <| .take 7 <| .take 10 <| .take 11 <| .take 14 <| .take 15 <| .take 16 <| .take 17 <| .take 19 <| .take 21 <| .take 24 <| .take 25 <| .alt 6 (.alt 8 (.take 9 <| .take 12 <| .take 13 <| .take 18 <| .alt 20 (.alt 22 (.take 23 <| .take 26 <| .take 27 <| .take 28 <| .alt 29 (.done) .stop) .stop) .stop) .stop) .stop), (9, [], .take 0 <| .take 1 <| .take 2 <| .take 3 <| .take 4 <| .take 5 <| .take 6 <| .take 7 <| .take 8 <| .take 9 <| .take 10 <| .take 11 <| .take 12 <| .take 13 <| .take 14 <| .take 15 <| .take 16 <| .take 17 <| .take 18 <| .take 19 <| .take 20 <| .take 21 <| .take 22 <| .take 23 <| .take 24 <| .take 25 <| .take 26 <| .take 27 <| .take 28 <| .take 29 <| .take 30 <| .take 31 <| .alt 32 (.alt 33 (.alt 34 (.alt 35 (.alt 36 (.alt 37 (.alt 38 (.alt 39 (.done) .stop) .stop) .stop) .stop) .stop) .stop) .stop) .stop), (13, [], .take 0 <| .take 1 <| .take 3 <| .take 6 <| .take 10 <| .take 11 <| .take 12 <| .take 13 <| .take 14 <| .take 15 <| .take 16 <| .take 17 <| .take 19 <| .take 20 <| .take 21 <| .take 23 <| .take 24 <| .take 25 <| .alt 2 (.alt 4 (.take 5 <| .alt 7 (.take 8 <| .take 9 <| .take 18 <| .take 22 <| .take 26 <| .alt 27 (.done) .stop) .stop) .stop) .stop), (20, [9], .take 0 <| .take 1 <| .take 2 <| .take 3 <| .take 4 <| .take 5 <| .take 6 <| .take 7 <| .take 8 <| .alt 9 (.done) .stop)] _ _ ?_
      simp [-List.getD_eq_getElem?_getD, c_hashBlock, c_turned]
      have hl := schP_len (byteF b) i
      have a0 : IntKind.i64.wrap (4 * (i : Int)) = ((4 * i : Nat) : Int) := by rw [wrap64 (by omega)]; omega
      have a1 : IntKind.i64.wrap (((4 * i : Nat) : Int) + 1) = ((4 * i + 1 : Nat) : Int) := by rw [wrap64 (by omega)]; omega
      have a2 : IntKind.i64.wrap (((4 * i : Nat) : Int) + 2) = ((4 * i + 2 : Nat) : Int) := by rw [wrap64 (by omega)]; omega
      have a3 : IntKind.i64.wrap (((4 * i : Nat) : Int) + 3) = ((4 * i + 3 : Nat) : Int) := by rw [wrap64 (by omega)]; omega
      rw [a0, a1, a2, a3]
      simp only [Int.toNat_natCast, wB]
      refine ⟨fun h64 => ⟨fun h16 => ?_, fun h16 => ?_⟩, fun h64 => ?_⟩
      · refine ⟨by decide +kernel, ⟨by omega, by omega⟩, ⟨by omega, by omega⟩, ⟨by omega, by omega⟩, ⟨by omega, by omega⟩, ⟨h64, by omega⟩, by omega, ⟨i + 1, ⟨?_, wrap64 (by omega)⟩, by omega⟩, by rw [wrap64 (by omega)]; omega⟩
        rw [set_at hl (by omega), schP, if_pos (by omega)]
        rfl
      · have c15 : IntKind.i64.wrap ((i : Int) - 15) = ((i - 15 : Nat) : Int) := by rw [wrap64 (by omega)]; omega
        have c2 : IntKind.i64.wrap ((i : Int) - 2) = ((i - 2 : Nat) : Int) := by rw [wrap64 (by omega)]; omega
        have c16 : IntKind.i64.wrap ((i : Int) - 16) = ((i - 16 : Nat) : Int) := by rw [wrap64 (by omega)]; omega
        have c7 : IntKind.i64.wrap ((i : Int) - 7) = ((i - 7 : Nat) : Int) := by rw [wrap64 (by omega)]; omega
        rw [c15, c2, c16, c7]
        simp only [Int.toNat_natCast]
        rw [nth_left (by omega : i - 15 < (schP (byteF b) i).length), nth_left (by omega : i - 2 < (schP (byteF b) i).length), nth_left (by omega : i - 16 < (schP (byteF b) i).length), nth_left (by omega : i - 7 < (schP (byteF b) i).length)]
        refine ⟨by decide +kernel, ⟨by omega, by omega, by omega⟩, by omega, fun _ => ⟨⟨by omega, by omega, by omega⟩, by omega, fun _ => ⟨by decide +kernel, ⟨by omega, by omega, by omega⟩, by omega, fun _ => ⟨⟨by omega, by omega, by omega⟩, by omega, fun _ => ⟨⟨h64, by omega⟩, by omega, ⟨i + 1, ⟨?_, wrap64 (by omega)⟩, by omega⟩, by rw [wrap64 (by omega)]; omega⟩⟩⟩⟩⟩
        rw [set_at hl (by omega), schP, if_neg (by omega)]
        rfl
      · have e : i = 64 := by omega
        subst e
        exact ⟨by simp, rfl⟩
  · rintro ys rfl
    refine hW.vc [(9, [], .take 0 <| .take 1 <| .take 2 <| .take 3 <| .take 4 <| .take 5 <| .take 6 <| .take 7 <| .take 8 <| .take 9 <| .take 10 <| .take 11 <| .take 12 <| .take 13 <| .take 14 <| .take 15 <| .take 16 <| .take 17 <| .take 18 <| .take 19 <| .take 20 <| .take 21 <| .take 22 <| .take 23 <| .take 24 <| .take 25 <| .take 26 <| .take 27 <| .take 28 <| .take 29 <| .take 30 <| .take 31 <| .alt 32 (.alt 33 (.alt 34 (.alt 35 (.alt 36 (.alt 37 (.alt 38 (.alt 39 (.done) .stop) .stop) .stop) .stop) .stop) .stop) .stop) .stop)] _ _ ?_
    simp [-List.getD_eq_getElem?_getD, c_hashBlock, c_turned]
    refine ⟨by decide +kernel, by omega, by omega, fun _ => ⟨by omega, by omega, fun _ => ⟨by omega, by omega, fun _ => ⟨by omega, by omega, fun _ => ⟨by omega, by omega, fun _ => ⟨by omega, by omega, fun _ => ⟨by omega, by omega, fun _ => ⟨by omega, by omega, fun _ => ?_⟩⟩⟩⟩⟩⟩⟩⟩
    obtain ⟨W64, hW64⟩ : ∃ L, L = schP (byteF b) 64 := ⟨_, rfl⟩
    have wl : W64.length = 64 := by rw [hW64, schP_len]
    obtain ⟨rs, hrs⟩ : ∃ rs : Nat → S8, rs = rnds G1 W64 (s8Of st) := ⟨_, rfl⟩
    have hr0 : rs 0 = s8Of st := by rw [hrs]; rfl
    have hrS : ∀ i, rs (i + 1) = (rs i).step (nth G1 i).I (nth W64 i).I := fun i => by rw [hrs]; rfl
    rw [← hW64]
    refine hW.cutS [_, _] _ _ [.sl 8 .dp (.int .u32), .sl 9 .dp (.int .u32), .sl 10 .dp (.int .u32), .sl 11 .dp (.int .u32), .sl 12 .dp (.int .u32), .sl 13 .dp (.int .u32), .sl 14 .dp (.int .u32), .sl 15 .dp (.int .u32), .sl 127 .dp (.int .i64)]
      (fun ys => ys = [.int .u32 (rs 64).a, .int .u32 (rs 64).b, .int .u32 (rs 64).c, .int .u32 (rs 64).d, .int .u32 (rs 64).e, .int .u32 (rs 64).f, .int .u32 (rs 64).g, .int .u32 (rs 64).h, .int .i64 64]) ?_ ?_
    · refine hW.loopS _ _ _ [.sl 8 .dp (.int .u32), .sl 9 .dp (.int .u32), .sl 10 .dp (.int .u32), .sl 11 .dp (.int .u32), .sl 12 .dp (.int .u32), .sl 13 .dp (.int .u32), .sl 14 .dp (.int .u32), .sl 15 .dp (.int .u32), .sl 127 .dp (.int .i64)]
        (fun ys => ∃ i : Nat, ys = [.int .u32 (rs i).a, .int .u32 (rs i).b, .int .u32 (rs i).c, .int .u32 (rs i).d, .int .u32 (rs i).e, .int .u32 (rs i).f, .int .u32 (rs i).g, .int .u32 (rs i).h, .int .i64 i] ∧ i ≤ 64) (fun ys => 64 - (nth ys 8).I.toNat) ?_ ?_
      · simp [-List.getD_eq_getElem?_getD, c_hashBlock, c_turned]
        refine ⟨0, ?_, by omega⟩
        rw [hr0]
        and_intros <;> rfl
      · rintro ys ⟨i, rfl, g1⟩
        refine hW.vc [(5, [31], .take 0 <| .take 1 <| .take 2 <| .take 3 <| .take 4 <| .take 5 <| .take 6 <| .take 7 <| .take 8 <| .take 9 <| .take 10 <| .take 11 <| .take 12 <| .take 13 <| .take 14 <| .take 15 <| .take 16 <| .take 17 <| .take 18 <| .take 19 <| .take 20 <| .take 21 <| .take 22 <| .take 23 <| .take 24 <| .take 25 <| .take 26 <| .take 27 <| .take 28 <| .take 29 <| .take 30 <| .alt 31 (.done) .stop), (6, [], .take 0 <| .take 1 <| .take 2 <| .take 3 <| .take 4 <| .take 5 <| .take 6 <| .take 7 <| .alt 8 (.alt 9 (.done) .stop) .stop), (7, [29], .take 0 <| .take 1 <| .take 2 <| .take 3 <| .take 4 <| .take 5 <| .take 7 <| .take 10 <| .take 11 <| .take 14 <| .take 15 <| .take 16 <| .take 17 <| .take 19 <| .take 21 <| .take 24 <| .take 25 <| .alt 6 (.alt 8 (.take 9 <| .take 12 <| .take 13 <| .take 18 <| .alt 20 (.alt 22 (.take 23 <| .take 26 <| .take 27 <| .take 28 <| .alt 29 (.done) .stop) .stop) .stop) .stop) .stop), (9, [], .take 0 <| .take 1 <| .take 2 <| .take 3 <| .take 4 <| .take 5 <| .take 6 <| .take 7 <| .take 8 <| .take 9 <| .take 10 <| .take 11 <| .take 12 <| .take 13 <| .take 14 <| .take 15 <| .take 16 <| .take 17 <| .take 18 <| .take 19 <| .take 20 <| .take 21 <| .take 22 <| .take 23 <| .take 24 <| .take 25 <| .take 26 <| .take 27 <| .take 28 <| .take 29 <| .take 30 <| .take 31 <| .alt 32 (.alt 33 (.alt 34 (.alt 35 (.alt 36 (.alt 37 (.alt 38 (.alt 39 (.done) .stop) .stop) .stop) .stop) .stop) .stop) .stop) .stop), (13, [], .take 0 <| .take 1 <| .take 3 <| .take 6 <| .take 10 <| .take 11 <| .take 12 <| .take 13 <| .take 14 <| .take 15 <| .take 16 <| .take 17 <| .take 19 <| .take 20 <| .take 21 <| .take 23 <| .take 24 <| .take 25 <| .alt 2 (.alt 4 (.take 5 <| .alt 7 (.take 8 <| .take 9 <| .take 18 <| .take 22 <| .take 26 <| .alt 27 (.done) .stop) .stop) .stop) .stop), (20, [9], .take 0 <| .take 1 <| .take 2 <| .take 3 <| .take 4 <| .take 5 <| .take 6 <| .take 7 <| .take 8 <| .alt 9 (.done) .stop)] _ _ ?_
        simp [-List.getD_eq_getElem?_getD, c_hashBlock, c_turned]
        refine ⟨fun h => ⟨by decide +kernel, h, by omega, fun _ _ => ⟨⟨h, by omega⟩, by omega, fun _ => ⟨⟨i + 1, ?_, by omega⟩, by rw [wrap64 (by omega)]; omega⟩⟩⟩, fun h => ?_⟩
        · rw [hrS]
          and_intros
          all_goals first | rfl | exact wrap64 (by omega)
        · have e : i = 64 := by omega
          subst e
          and_intros <;> rfl
    · rintro ys rfl
      refine hW.vc [(5, [31], .take 0 <| .take 1 <| .take 2 <| .take 3 <| .take 4 <| .take 5 <| .take 6 <| .take 7 <| .take 8 <| .take 9 <| .take 10 <| .take 11 <| .take 12 <| .take 13 <| .take 14 <| .take 15 <| .take 16 <| .take 17 <| .take 18 <| .take 19 <| .take 20 <| .take 21 <| .take 22 <| .take 23 <| .take 24 <| .take 25 <| .take 26 <| .take 27 <| .take 28 <| .take 29 <| .take 30 <| .alt 31 (.done) .stop), (6, [], .take 0 <| .take 1 <| .take 2 <| .take 3 <| .take 4 <| .take 5 <| .take 6 <| .take 7 <| .alt 8 (.alt 9 (.done) .stop) .stop), (7, [29], .take 0 <| .take 1 <| .take 2 <| .take 3 <| .take 4 <| .take 5 <| .take 7 <| .take 10 <| .take 11 <| .take 14 <| .take 15 <| .take 16 <| .take 17 <| .take 19 <| .take 21 <| .take 24 <| .take 25 <| .alt 6 (.alt 8 (.take 9 <| .take 12 <| .take 13 <| .take 18 <| .alt 20 (.alt 22 (.take 23 <| .take 26 <| .take 27 <| .take 28 <| .alt 29 (.done) .stop) .stop) .stop) .stop) .stop), (9, [], .take 0 <| .take 1 <| .take 2 <| .take 3 <| .take 4 <| .take 5 <| .take 6 <| .take 7 <| .take 8 <| .take 9 <| .take 10 <| .take 11 <| .take 12 <| .take 13 <| .take 14 <| .take 15 <| .take 16 <| .take 17 <| .take 18 <| .take 19 <| .take 20 <| .take 21 <| .take 22 <| .take 23 <| .take 24 <| .take 25 <| .take 26 <| .take 27 <| .take 28 <| .take 29 <| .take 30 <| .take 31 <| .alt 32 (.alt 33 (.alt 34 (.alt 35 (.alt 36 (.alt 37 (.alt 38 (.alt 39 (.done) .stop) .stop) .stop) .stop) .stop) .stop) .stop) .stop), (13, [], .take 0 <| .take 1 <| .take 3 <| .take 6 <| .take 10 <| .take 11 <| .take 12 <| .take 13 <| .take 14 <| .take 15 <| .take 16 <| .take 17 <| .take 19 <| .take 20 <| .take 21 <| .take 23 <| .take 24 <| .take 25 <| .alt 2 (.alt 4 (.take 5 <| .alt 7 (.take 8 <| .take 9 <| .take 18 <| .take 22 <| .take 26 <| .alt 27 (.done) .stop) .stop) .stop) .stop), (20, [9], .take 0 <| .take 1 <| .take 2 <| .take 3 <| .take 4 <| .take 5 <| .take 6 <| .take 7 <| .take 8 <| .alt 9 (.done) .stop)] _ _ ?_
      simp [-List.getD_eq_getElem?_getD, c_hashBlock, c_turned]
      refine ⟨by decide, hW.loopS _ _ _ [.ax 0, .sl 199 .dp (.int .i64)] (fun ys => ∃ i : Nat, ys = [.list (addP st (rs 64).pv i ++ st.drop i), .int .i64 i] ∧ i ≤ 8) (fun ys => 8 - (nth ys 1).I.toNat) ?_ ?_⟩
      · simp [-List.getD_eq_getElem?_getD, c_hashBlock, c_turned]
        exact ⟨0, ⟨rfl, rfl⟩, by omega⟩
      · rintro ys ⟨i, rfl, g1⟩
        refine hW.vc [(5, [31], .take 0 <| .take 1 <| .take 2 <| .take 3 <| .take 4 <| .take 5 <| .take 6 <| .take 7 <| .take 8 <| .take 9 <| .take 10 <| .take 11 <| .take 12 <| .take 13 <| .take 14 <| .take 15 <| .take 16 <| .take 17 <| .take 18 <| .take 19 <| .take 20 <| .take 21 <| .take 22 <| .take 23 <| .take 24 <| .take 25 <| .take 26 <| .take 27 <| .take 28 <| .take 29 <| .take 30 <| .alt 31 (.done) .stop), (6, [], .take 0 <| .take 1 <| .take 2 <| .take 3 <| .take 4 <| .take 5 <| .take 6 <| .take 7 <| .alt 8 (.alt 9 (.done) .stop) .stop), (7, [29], .take 0 <| .take 1 <| .take 2 <| .take 3 <| .take 4 <| .take 5 <| .take 7 <| .take 10 <| .take 11 <| .take 14 <| .take 15 <| .take 16 <| .take 17 <| .take 19 <| .take 21 <| .take 24 <| .take 25 <| .alt 6 (.alt 8 (.take 9 <| .take 12 <| .take 13 <| .take 18 <| .alt 20 (.alt 22 (.take 23 <| .take 26 <| .take 27 <| .take 28 <| .alt 29 (.done) .stop) .stop) .stop) .stop) .stop), (9, [], .take 0 <| .take 1 <| .take 2 <| .take 3 <| .take 4 <| .take 5 <| .take 6 <| .take 7 <| .take 8 <| .take 9 <| .take 10 <| .take 11 <| .take 12 <| .take 13 <| .take 14 <| .take 15 <| .take 16 <| .take 17 <| .take 18 <| .take 19 <| .take 20 <| .take 21 <| .take 22 <| .take 23 <| .take 24 <| .take 25 <| .take 26 <| .take 27 <| .take 28 <| .take 29 <| .take 30 <| .take 31 <| .alt 32 (.alt 33 (.alt 34 (.alt 35 (.alt 36 (.alt 37 (.alt 38 (.alt 39 (.done) .stop) .stop) .stop) .stop) .stop) .stop) .stop) .stop), (13, [], .take 0 <| .take 1 <| .take 3 <| .take 6 <| .take 10 <| .take 11 <| .take 12 <| .take 13 <| .take 14 <| .take 15 <| .take 16 <| .take 17 <| .take 19 <| .take 20 <| .take 21 <| .take 23 <| .take 24 <| .take 25 <| .alt 2 (.alt 4 (.take 5 <| .alt 7 (.take 8 <| .take 9 <| .take 18 <| .take 22 <| .take 26 <| .alt 27 (.done) .stop) .stop) .stop) .stop), (20, [9], .take 0 <| .take 1 <| .take 2 <| .take 3 <| .take 4 <| .take 5 <| .take 6 <| .take 7 <| .take 8 <| .alt 9 (.done) .stop)] _ _ ?_
        simp [-List.getD_eq_getElem?_getD, c_hashBlock, c_turned]
        have al := addP_len st (rs 64).pv i
        refine ⟨fun h => ?_, fun h => ?_⟩
        · have h8 : i < 8 := by omega
          rw [drop_at al (by omega), pv_getD (rs 64) h8, drop_set al (by omega)]
          exact ⟨h, by decide +kernel, ⟨h, by omega⟩, by omega, fun _ => ⟨⟨h, by omega⟩, by omega, ⟨i + 1, ⟨rfl, wrap64 (by omega)⟩, by omega⟩, by rw [wrap64 (by omega)]; omega⟩⟩
        · have e : i = 8 := by omega
          subst e
          rw [List.drop_eq_nil_of_le (by omega), List.append_nil, blkP, hrs, hW64]

end Go.Proofs.YtolgjekokdimoaaGreatDoor
end

section
namespace Go.Proofs.YtolgjekokdimoaaGreatDoor
variable [LaidG]
variable [LaidN 0] [LaidN 1]
set_option maxRecDepth 100000
set_option linter.unusedSimpArgs false

def byteP (bs : List PV) (k : Nat) : Int := (nth bs k).I
def c_l01Consts : FSpec := ⟨[], [.list (.int .u32)], true, fun _ => True, fun _ => [.list G1], fun _ => []⟩
theorem k_l01Consts : FnOk Tryz.prog 172 c_l01Consts := by
  refine fn_mk [0] [.tmp 0] (env_nil (tyTab_ok [])) mixed Tryz.func172 rfl (by decide) rfl (by decide) rfl ?_
  intro ps hT hpre W hW
  simp only [c_l01Consts, TyA, Ty, Tys] at hT hpre
  obtain rfl := hT
  refine hW.vc [] _ _ ?_
  simp [-List.getD_eq_getElem?_getD, c_l01Consts]
  exact ⟨by decide, rfl⟩

theorem pv_s8 : ∀ {st : List PV}, st.length = 8 → (∀ e ∈ st, ∃ n, e = PV.int .u32 n ∧ inR .u32 n) → (s8Of st).pv = st
  | [a, b, c, d, e, f, g, h], _, ht => by
    obtain ⟨_, rfl, _⟩ := ht a (by simp)
    obtain ⟨_, rfl, _⟩ := ht b (by simp)
    obtain ⟨_, rfl, _⟩ := ht c (by simp)
    obtain ⟨_, rfl, _⟩ := ht d (by simp)
    obtain ⟨_, rfl, _⟩ := ht e (by simp)
    obtain ⟨_, rfl, _⟩ := ht f (by simp)
    obtain ⟨_, rfl, _⟩ := ht g (by simp)
    obtain ⟨_, rfl, _⟩ := ht h (by simp)
    rfl
def c_l01Block : FSpec := ⟨[(.mt, .list (.int .u32)), (.rd, .list (.int .u8)), (.rd, .list (.int .u32))], [], true, fun ps => (nth ps 0).L.length = 8 ∧ (nth ps 1).L.length = 64 ∧ (nth ps 2).L = G1, fun _ => [], fun ps => [.list (blkP G1 (nth ps 0).L (byteP (nth ps 1).L))]⟩
set_option maxHeartbeats 4000000 in
theorem k_l01Block : FnOk Tryz.prog 173 c_l01Block := by
  refine fn_mk [0, 1, 2, 6, 7, 8, 9, 10, 11, 12, 13, 14, 15, 16, 17] [] (env_cons (cs := []) k_l01Turn (env_nil (tyTab_ok []))) mixed Tryz.func173 rfl (by decide) rfl (by decide) rfl ?_
  intro ps hT hpre W hW
  simp only [c_l01Block, TyA, Ty, Tys] at hT hpre
  obtain ⟨_, _, rfl, ⟨st, rfl, hst, tst⟩, _, _, rfl, ⟨b, rfl, hb, tb⟩, _, _, rfl, ⟨ks, rfl, hks, tks⟩, rfl⟩ := hT
  simp only [nth_zero, nth_succ, pv_L] at hpre
  obtain ⟨p1, p2, p3⟩ := hpre
  have pk : ks.length = 64 := by rw [p3, G1_len]
  have bB : ∀ k, k < 64 → 0 ≤ (nth b k).I ∧ (nth b k).I ≤ 255 := fun k hk => by
    obtain ⟨n, e, h⟩ := tb _ (nth_mem (by omega : k < b.length))
    rw [e, pv_I]
    simp [inR, IntKind.min, IntKind.max, IntKind.signed, IntKind.bits] at h
    omega
  have wI : ∀ k, k < 64 → IntKind.u32.wrap (nth b k).I = (nth b k).I := fun k hk => by
    have := bB k hk
    simp [IntKind.wrap, IntKind.signed, IntKind.bits]; omega
  refine hW.vc [] _ _ ?_
  simp [-List.reduceReplicate, -List.getD_eq_getElem?_getD, c_l01Block, c_l01Turn]
  refine hW.cutS [_, _] _ _ [.ar 6 (.int .u32), .sl 7 .dp (.int .i64)] (fun ys => ys = [.list (schP (byteP b) 16 ++ List.replicate 48 (.int .u32 0)), .int .i64 16]) ?_ ?_
  · refine hW.loopS _ _ _ [.ar 6 (.int .u32), .sl 7 .dp (.int .i64)] (fun ys => ∃ i : Nat, ys = [.list (schP (byteP b) i ++ List.replicate (64 - i) (.int .u32 0)), .int .i64 i] ∧ i ≤ 16) (fun ys => 64 - (nth ys 1).I.toNat) ?_ ?_
    · simp [-List.reduceReplicate, -List.getD_eq_getElem?_getD, c_l01Block, c_l01Turn]
      exact ⟨0, ⟨rfl, rfl⟩, by omega⟩
    · rintro ys ⟨i, rfl, g1⟩
      refine hW.vc [(4, [36], .take 0 <| .take 1 <| .take 2 <| .take 3 <| .take 4 <| .take 5 <| .take 6 <| .take 7 <| .take 8 <| .take 9 <| .take 10 <| .take 11 <| .take 12 <| .take 13 <| .take 14 <| .take 15 <| .take 16 <| .take 17 <| .take 18 <| .take 19 <| .take 20 <| .take 21 <| .take 22 <| .take 23 <| .take 24 <| .take 25 <| .take 26 <| .take 27 <| .take 28 <| .take 29 <| .take 30 <| .take 31 <| .take 32 <| .take 33 <| .take 34 <| .take 35 <| .alt 36 (.done) .stop), (10, [32], .take 0 <| .take 1 <| .take 2 <| .take 3 <| .take 4 <| .take 5 <| .take 6 <| .take 7 <| .take 9 <| .take 12 <| .take 13 <| .take 16 <| .take 17 <| .take 18 <| .take 19 <| .take 20 <| .take 22 <| .take 24 <| .take 27 <| .take 28 <| .alt 8 (.alt 10 (.take 11 <| .take 14 <| .take 15 <| .take 21 <| .alt 23 (.alt 25 (.take 26 <| .take 29 <| .take 30 <| .take 31 <| .alt 32 (.done) .stop) .stop) .stop) .stop) .stop), (17, [], .take 0 <| .take 1 <| .take 2 <| .take 3 <| .take 5 <| .take 8 <| .take 12 <| .take 13 <| .take 14 <| .take 15 <| .take 16 <| .take 17 <| .take 18 <| .take 19 <| .take 20 <| .take 21 <| .take 22 <| .take 23 <| .take 25 <| .take 26 <| .take 27 <| .take 28 <| .take 30 <| .take 31 <| .take 32 <| .take 33 <| .alt 4 (.alt 6 (.take 7 <| .alt 9 (.take 10 <| .take 11 <| .take 24 <| .take 29 <| .take 34 <| .alt 35 (.done) .stop) .stop) .stop) .stop), (18, [], .take 0 <| .take 2 <| .take 5 <| .take 8 <| .take 9 <| .take 10 <| .take 11 <| .take 12 <| .take 13 <| .take 14 <| .take 15 <| .take 16 <| .take 17 <| .take 18 <| .take 19 <| .take 20 <| .take 21 <| .take 22 <| .take 23 <| .take 24 <| .take 25 <| .take 26 <| .alt 1 (.alt 3 (.take 4 <| .alt 6 (.take 7 <| .take 27 <| .alt 28 (.done) .stop) .stop) .stop) .stop), (19, [], .take 0 <| .take 1 <| .take 2 <| .take 3 <| .take 4 <| .take 5 <| .take 6 <| .take 7 <| .take 8 <| .take 9 <| .take 10 <| .take 11 <| .take 12 <| .take 13 <| .take 14 <| .take 15 <| .take 16 <| .take 17 <| .take 18 <| .take 19 <| .take 20 <| .take 21 <| .take 22 <| .take 23 <| .take 24 <| .take 25 <| .alt 26 (.alt 27 (.done) .stop) .stop), (23, [10], .take 0 <| .take 1 <| .take 2 <| .take 3 <| .take 4 <| .take 5 <| .take 6 <| .take 7 <| .take 8 <| .take 9 <| .alt 10 (.done) .stop)] _ _ ?_
      simp [-List.reduceReplicate, -List.getD_eq_getElem?_getD, c_l01Block, c_l01Turn]
      have hl := schP_len (byteP b) i
      have a0 : IntKind.i64.wrap (4 * (i : Int)) = ((4 * i : Nat) : Int) := by rw [wrap64 (by omega)]; omega
      have a1 : IntKind.i64.wrap (((4 * i : Nat) : Int) + 1) = ((4 * i + 1 : Nat) : Int) := by rw [wrap64 (by omega)]; omega
      have a2 : IntKind.i64.wrap (((4 * i : Nat) : Int) + 2) = ((4 * i + 2 : Nat) : Int) := by rw [wrap64 (by omega)]; omega
      have a3 : IntKind.i64.wrap (((4 * i : Nat) : Int) + 3) = ((4 * i + 3 : Nat) : Int) := by rw [wrap64 (by omega)]; omega
      rw [a0, a1, a2, a3]
      simp only [Int.toNat_natCast]
      rw [wrap64 (n := (i : Int) + 1) (by omega)]
      refine ⟨fun h => ?_, fun h => ?_⟩
      · rw [wI (4 * i) (by omega), wI (4 * i + 1) (by omega), wI (4 * i + 2) (by omega), wI (4 * i + 3) (by omega)]
        repeat' (first | apply And.intro | intro _)
        all_goals first | omega | decide +kernel | exact ⟨i + 1, ⟨by rw [set_at hl (by omega), schP, if_pos (by omega)]; rfl, by omega⟩, by omega⟩
      · have e : i = 16 := by omega
        subst e
        exact ⟨rfl, rfl⟩
  · rintro ys rfl
    refine hW.vc [] _ _ ?_
    simp [-List.reduceReplicate, -List.getD_eq_getElem?_getD, c_l01Block, c_l01Turn]
    refine hW.cutS [_, _] _ _ [.ar 6 (.int .u32), .sl 8 .dp (.int .i64)] (fun ys => ys = [.list (schP (byteP b) 64), .int .i64 64]) ?_ ?_
    · refine hW.loopS _ _ _ [.ar 6 (.int .u32), .sl 8 .dp (.int .i64)] (fun ys => ∃ i : Nat, ys = [.list (schP (byteP b) i ++ List.replicate (64 - i) (.int .u32 0)), .int .i64 i] ∧ 16 ≤ i ∧ i ≤ 64) (fun ys => 64 - (nth ys 1).I.toNat) ?_ ?_
      · simp [-List.reduceReplicate, -List.getD_eq_getElem?_getD, c_l01Block, c_l01Turn]
        exact ⟨16, ⟨rfl, rfl⟩, by omega, by omega⟩
      · rintro ys ⟨i, rfl, g0, g1⟩
        refine hW.vc [(4, [36], .take 0 <| .take 1 <| .take 2 <| .take 3 <| .take 4 <| .take 5 <| .take 6 <| .take 7 <| .take 8 <| .take 9 <| .take 10 <| .take 11 <| .take 12 <| .take 13 <| .take 14 <| .take 15 <| .take 16 <| .take 17 <| .take 18 <| .take 19 <| .take 20 <| .take 21 <| .take 22 <| .take 23 <| .take 24 <| .take 25 <| .take 26 <| .take 27 <| .take 28 <| .take 29 <| .take 30 <| .take 31 <| .take 32 <| .take 33 <| .take 34 <| .take 35 <| .alt 36 (.done) .stop), (10, [32], .take 0 <| .take 1 <| .take 2 <| .take 3 <| .take 4 <| .take 5 <| .take 6 <| .take 7 <| .take 9 <| .take 12 <| .take 13 <| .take 16 <| .take 17 <| .take 18 <| .take 19 <| .take 20 <| .take 22 <| .take 24 <| .take 27 <| .take 28 <| .alt 8 (.alt 10 (.take 11 <| .take 14 <| .take 15 <| .take 21 <| .alt 23 (.alt 25 (.take 26 <| .take 29 <| .take 30 <| .take 31 <| .alt 32 (.done) .stop) .stop) .stop) .stop) .stop), (17, [], .take 0 <| .take 1 <| .take 2 <| .take 3 <| .take 5 <| .take 8 <| .take 12 <| .take 13 <| .take 14 <| .take 15 <| .take 16 <| .take 17 <| .take 18 <| .take 19 <| .take 20 <| .take 21 <| .take 22 <| .take 23 <| .take 25 <| .take 26 <| .take 27 <| .take 28 <| .take 30 <| .take 31 <| .take 32 <| .take 33 <| .alt 4 (.alt 6 (.take 7 <| .alt 9 (.take 10 <| .take 11 <| .take 24 <| .take 29 <| .take 34 <| .alt 35 (.done) .stop) .stop) .stop) .stop), (18, [], .take 0 <| .take 2 <| .take 5 <| .take 8 <| .take 9 <| .take 10 <| .take 11 <| .take 12 <| .take 13 <| .take 14 <| .take 15 <| .take 16 <| .take 17 <| .take 18 <| .take 19 <| .take 20 <| .take 21 <| .take 22 <| .take 23 <| .take 24 <| .take 25 <| .take 26 <| .alt 1 (.alt 3 (.take 4 <| .alt 6 (.take 7 <| .take 27 <| .alt 28 (.done) .stop) .stop) .stop) .stop), (19, [], .take 0 <| .take 1 <| .take 2 <| .take 3 <| .take 4 <| .take 5 <| .take 6 <| .take 7 <| .take 8 <| .take 9 <| .take 10 <| .take 11 <| .take 12 <| .take 13 <| .take 14 <| .take 15 <| .take 16 <| .take 17 <| .take 18 <| .take 19 <| .take 20 <| .take 21 <| .take 22 <| .take 23 <| .take 24 <| .take 25 <| .alt 26 (.alt 27 (.done) .stop) .stop), (23, [10], .take 0 <| .take 1 <| .take 2 <| .take 3 <| .take 4 <| .take 5 <| .take 6 <| .take 7 <| .take 8 <| .take 9 <| .alt 10 (.done) .stop)] _ _ ?_
        simp [-List.reduceReplicate, -List.getD_eq_getElem?_getD, c_l01Block, c_l01Turn]
        have hl := schP_len (byteP b) i
        have c15 : IntKind.i64.wrap ((i : Int) - 15) = ((i - 15 : Nat) : Int) := by rw [wrap64 (by omega)]; omega
        have c2 : IntKind.i64.wrap ((i : Int) - 2) = ((i - 2 : Nat) : Int) := by rw [wrap64 (by omega)]; omega
        have c16 : IntKind.i64.wrap ((i : Int) - 16) = ((i - 16 : Nat) : Int) := by rw [wrap64 (by omega)]; omega
        have c7 : IntKind.i64.wrap ((i : Int) - 7) = ((i - 7 : Nat) : Int) := by rw [wrap64 (by omega)]; omega
        rw [c15, c2, c16, c7]
        simp only [Int.toNat_natCast]
        rw [nth_left (by omega : i - 15 < (schP (byteP b) i).length), nth_left (by omega : i - 2 < (schP (byteP b) i).length), nth_left (by omega : i - 16 < (schP (byteP b) i).length), nth_left (by omega : i - 7 < (schP (byteP b) i).length)]
        rw [wrap64 (n := (i : Int) + 1) (by omega)]
        refine ⟨fun h => ?_, fun h => ?_⟩
        · repeat' (first | apply And.intro | intro _)
          all_goals first | omega | decide +kernel | exact ⟨i + 1, ⟨by rw [set_at hl (by omega), schP, if_neg (by omega)]; rfl, by omega⟩, by omega, by omega⟩
        · have e : i = 64 := by omega
          subst e
          exact ⟨by simp, rfl⟩
    · rintro ys rfl
      refine hW.vc [] _ _ ?_
      simp [-List.reduceReplicate, -List.getD_eq_getElem?_getD, c_l01Block, c_l01Turn]
      refine ⟨by omega, ?_⟩
      obtain ⟨W64, hW64⟩ : ∃ L, L = schP (byteP b) 64 := ⟨_, rfl⟩
      have wl : W64.length = 64 := by rw [hW64, schP_len]
      obtain ⟨rs, hrs⟩ : ∃ rs : Nat → S8, rs = rnds G1 W64 (s8Of st) := ⟨_, rfl⟩
      have hr0 : rs 0 = s8Of st := by rw [hrs]; rfl
      have hrS : ∀ i, rs (i + 1) = (rs i).step (nth G1 i).I (nth W64 i).I := fun i => by rw [hrs]; rfl
      rw [← hW64]
      refine hW.cutS [_, _] _ _ [.sl 11 .dp (.list (.int .u32)), .sl 12 .dp (.int .i64)] (fun ys => ys = [.list (rs 64).pv, .int .i64 64]) ?_ ?_
      · refine hW.loopS _ _ _ [.sl 11 .dp (.list (.int .u32)), .sl 12 .dp (.int .i64)] (fun ys => ∃ i : Nat, ys = [.list (rs i).pv, .int .i64 i] ∧ i ≤ 64) (fun ys => 64 - (nth ys 1).I.toNat) ?_ ?_
        · simp [-List.getD_eq_getElem?_getD, c_l01Block, c_l01Turn]
          exact ⟨0, ⟨by rw [hr0, pv_s8 p1 tst], rfl⟩, by omega⟩
        · rintro ys ⟨i, rfl, g1⟩
          refine hW.vc [(4, [36], .take 0 <| .take 1 <| .take 2 <| .take 3 <| .take 4 <| .take 5 <| .take 6 <| .take 7 <| .take 8 <| .take 9 <| .take 10 <| .take 11 <| .take 12 <| .take 13 <| .take 14 <| .take 15 <| .take 16 <| .take 17 <| .take 18 <| .take 19 <| .take 20 <| .take 21 <| .take 22 <| .take 23 <| .take 24 <| .take 25 <| .take 26 <| .take 27 <| .take 28 <| .take 29 <| .take 30 <| .take 31 <| .take 32 <| .take 33 <| .take 34 <| .take 35 <| .alt 36 (.done) .stop), (10, [32], .take 0 <| .take 1 <| .take 2 <| .take 3 <| .take 4 <| .take 5 <| .take 6 <| .take 7 <| .take 9 <| .take 12 <| .take 13 <| .take 16 <| .take 17 <| .take 18 <| .take 19 <| .take 20 <| .take 22 <| .take 24 <| .take 27 <| .take 28 <| .alt 8 (.alt 10 (.take 11 <| .take 14 <| .take 15 <| .take 21 <| .alt 23 (.alt 25 (.take 26 <| .take 29 <| .take 30 <| .take 31 <| .alt 32 (.done) .stop) .stop) .stop) .stop) .stop), (17, [], .take 0 <| .take 1 <| .take 2 <| .take 3 <| .take 5 <| .take 8 <| .take 12 <| .take 13 <| .take 14 <| .take 15 <| .take 16 <| .take 17 <| .take 18 <| .take 19 <| .take 20 <| .take 21 <| .take 22 <| .take 23 <| .take 25 <| .take 26 <| .take 27 <| .take 28 <| .take 30 <| .take 31 <| .take 32 <| .take 33 <| .alt 4 (.alt 6 (.take 7 <| .alt 9 (.take 10 <| .take 11 <| .take 24 <| .take 29 <| .take 34 <| .alt 35 (.done) .stop) .stop) .stop) .stop), (18, [], .take 0 <| .take 2 <| .take 5 <| .take 8 <| .take 9 <| .take 10 <| .take 11 <| .take 12 <| .take 13 <| .take 14 <| .take 15 <| .take 16 <| .take 17 <| .take 18 <| .take 19 <| .take 20 <| .take 21 <| .take 22 <| .take 23 <| .take 24 <| .take 25 <| .take 26 <| .alt 1 (.alt 3 (.take 4 <| .alt 6 (.take 7 <| .take 27 <| .alt 28 (.done) .stop) .stop) .stop) .stop), (19, [], .take 0 <| .take 1 <| .take 2 <| .take 3 <| .take 4 <| .take 5 <| .take 6 <| .take 7 <| .take 8 <| .take 9 <| .take 10 <| .take 11 <| .take 12 <| .take 13 <| .take 14 <| .take 15 <| .take 16 <| .take 17 <| .take 18 <| .take 19 <| .take 20 <| .take 21 <| .take 22 <| .take 23 <| .take 24 <| .take 25 <| .alt 26 (.alt 27 (.done) .stop) .stop), (23, [10], .take 0 <| .take 1 <| .take 2 <| .take 3 <| .take 4 <| .take 5 <| .take 6 <| .take 7 <| .take 8 <| .take 9 <| .alt 10 (.done) .stop)] _ _ ?_
          simp [-List.getD_eq_getElem?_getD, c_l01Block, c_l01Turn, S8.pv, p3]
          rw [wrap64 (n := (i : Int) + 1) (by omega)]
          refine ⟨fun h => ?_, fun h => ?_⟩
          · repeat' (first | apply And.intro | intro _)
            all_goals first | omega | decide +kernel | exact ⟨i + 1, ⟨by rw [hrS]; simp only [S8.step, S8.p, S8.q, ← ch_xor, ← maj_xor]; and_intros <;> first | rfl | trivial, by omega⟩, by omega⟩
          · have e : i = 64 := by omega
            subst e
            and_intros <;> rfl
      · rintro ys rfl
        refine hW.vc [(4, [36], .take 0 <| .take 1 <| .take 2 <| .take 3 <| .take 4 <| .take 5 <| .take 6 <| .take 7 <| .take 8 <| .take 9 <| .take 10 <| .take 11 <| .take 12 <| .take 13 <| .take 14 <| .take 15 <| .take 16 <| .take 17 <| .take 18 <| .take 19 <| .take 20 <| .take 21 <| .take 22 <| .take 23 <| .take 24 <| .take 25 <| .take 26 <| .take 27 <| .take 28 <| .take 29 <| .take 30 <| .take 31 <| .take 32 <| .take 33 <| .take 34 <| .take 35 <| .alt 36 (.done) .stop), (10, [32], .take 0 <| .take 1 <| .take 2 <| .take 3 <| .take 4 <| .take 5 <| .take 6 <| .take 7 <| .take 9 <| .take 12 <| .take 13 <| .take 16 <| .take 17 <| .take 18 <| .take 19 <| .take 20 <| .take 22 <| .take 24 <| .take 27 <| .take 28 <| .alt 8 (.alt 10 (.take 11 <| .take 14 <| .take 15 <| .take 21 <| .alt 23 (.alt 25 (.take 26 <| .take 29 <| .take 30 <| .take 31 <| .alt 32 (.done) .stop) .stop) .stop) .stop) .stop), (17, [], .take 0 <| .take 1 <| .take 2 <| .take 3 <| .take 5 <| .take 8 <| .take 12 <| .take 13 <| .take 14 <| .take 15 <| .take 16 <| .take 17 <| .take 18 <| .take 19 <| .take 20 <| .take 21 <| .take 22 <| .take 23 <| .take 25 <| .take 26 <| .take 27 <| .take 28 <| .take 30 <| .take 31 <| .take 32 <| .take 33 <| .alt 4 (.alt 6 (.take 7 <| .alt 9 (.take 10 <| .take 11 <| .take 24 <| .take 29 <| .take 34 <| .alt 35 (.done) .stop) .stop) .stop) .stop), (18, [], .take 0 <| .take 2 <| .take 5 <| .take 8 <| .take 9 <| .take 10 <| .take 11 <| .take 12 <| .take 13 <| .take 14 <| .take 15 <| .take 16 <| .take 17 <| .take 18 <| .take 19 <| .take 20 <| .take 21 <| .take 22 <| .take 23 <| .take 24 <| .take 25 <| .take 26 <| .alt 1 (.alt 3 (.take 4 <| .alt 6 (.take 7 <| .take 27 <| .alt 28 (.done) .stop) .stop) .stop) .stop), (19, [], .take 0 <| .take 1 <| .take 2 <| .take 3 <| .take 4 <| .take 5 <| .take 6 <| .take 7 <| .take 8 <| .take 9 <| .take 10 <| .take 11 <| .take 12 <| .take 13 <| .take 14 <| .take 15 <| .take 16 <| .take 17 <| .take 18 <| .take 19 <| .take 20 <| .take 21 <| .take 22 <| .take 23 <| .take 24 <| .take 25 <| .alt 26 (.alt 27 (.done) .stop) .stop), (23, [10], .take 0 <| .take 1 <| .take 2 <| .take 3 <| .take 4 <| .take 5 <| .take 6 <| .take 7 <| .take 8 <| .take 9 <| .alt 10 (.done) .stop)] _ _ ?_
        simp [-List.getD_eq_getElem?_getD, c_l01Block, c_l01Turn]
        refine hW.loopS _ _ _ [.ar 0 (.int .u32), .sl 17 .dp (.int .i64)] (fun ys => ∃ i : Nat, ys = [.list (addP st (rs 64).pv i ++ st.drop i), .int .i64 i] ∧ i ≤ 8) (fun ys => 8 - (nth ys 1).I.toNat) ?_ ?_
        · simp [-List.getD_eq_getElem?_getD, c_l01Block, c_l01Turn]
          exact ⟨0, ⟨rfl, rfl⟩, by omega⟩
        · rintro ys ⟨i, rfl, g1⟩
          refine hW.vc [(4, [36], .take 0 <| .take 1 <| .take 2 <| .take 3 <| .take 4 <| .take 5 <| .take 6 <| .take 7 <| .take 8 <| .take 9 <| .take 10 <| .take 11 <| .take 12 <| .take 13 <| .take 14 <| .take 15 <| .take 16 <| .take 17 <| .take 18 <| .take 19 <| .take 20 <| .take 21 <| .take 22 <| .take 23 <| .take 24 <| .take 25 <| .take 26 <| .take 27 <| .take 28 <| .take 29 <| .take 30 <| .take 31 <| .take 32 <| .take 33 <| .take 34 <| .take 35 <| .alt 36 (.done) .stop), (10, [32], .take 0 <| .take 1 <| .take 2 <| .take 3 <| .take 4 <| .take 5 <| .take 6 <| .take 7 <| .take 9 <| .take 12 <| .take 13 <| .take 16 <| .take 17 <| .take 18 <| .take 19 <| .take 20 <| .take 22 <| .take 24 <| .take 27 <| .take 28 <| .alt 8 (.alt 10 (.take 11 <| .take 14 <| .take 15 <| .take 21 <| .alt 23 (.alt 25 (.take 26 <| .take 29 <| .take 30 <| .take 31 <| .alt 32 (.done) .stop) .stop) .stop) .stop) .stop), (17, [], .take 0 <| .take 1 <| .take 2 <| .take 3 <| .take 5 <| .take 8 <| .take 12 <| .take 13 <| .take 14 <| .take 15 <| .take 16 <| .take 17 <| .take 18 <| .take 19 <| .take 20 <| .take 21 <| .take 22 <| .take 23 <| .take 25 <| .take 26 <| .take 27 <| .take 28 <| .take 30 <| .take 31 <| .take 32 <| .take 33 <| .alt 4 (.alt 6 (.take 7 <| .alt 9 (.take 10 <| .take 11 <| .take 24 <| .take 29 <| .take 34 <| .alt 35 (.done) .stop) .stop) .stop) .stop), (18, [], .take 0 <| .take 2 <| .take 5 <| .take 8 <| .take 9 <| .take 10 <| .take 11 <| .take 12 <| .take 13 <| .take 14 <| .take 15 <| .take 16 <| .take 17 <| .take 18 <| .take 19 <| .take 20 <| .take 21 <| .take 22 <| .take 23 <| .take 24 <| .take 25 <| .take 26 <| .alt 1 (.alt 3 (.take 4 <| .alt 6 (.take 7 <| .take 27 <| .alt 28 (.done) .stop) .stop) .stop) .stop), (19, [], .take 0 <| .take 1 <| .take 2 <| .take 3 <| .take 4 <| .take 5 <| .take 6 <| .take 7 <| .take 8 <| .take 9 <| .take 10 <| .take 11 <| .take 12 <| .take 13 <| .take 14 <| .take 15 <| .take 16 <| .take 17 <| .take 18 <| .take 19 <| .take 20 <| .take 21 <| .take 22 <| .take 23 <| .take 24 <| .take 25 <| .alt 26 (.alt 27 (.done) .stop) .stop), (23, [10], .take 0 <| .take 1 <| .take 2 <| .take 3 <| .take 4 <| .take 5 <| .take 6 <| .take 7 <| .take 8 <| .take 9 <| .alt 10 (.done) .stop)] _ _ ?_
          simp [-List.getD_eq_getElem?_getD, c_l01Block, c_l01Turn]
          rw [wrap64 (n := (i : Int) + 1) (by omega)]
          have al := addP_len st (rs 64).pv i
          have rl : (rs 64).pv.length = 8 := rfl
          refine ⟨fun h => ?_, fun h => ?_⟩
          · rw [drop_at al (by omega), drop_set al (by omega)]
            repeat' (first | apply And.intro | intro _)
            all_goals first | omega | decide +kernel | exact ⟨i + 1, ⟨rfl, by omega⟩, by omega⟩
          · have e : i = 8 := by omega
            subst e
            rw [List.drop_eq_nil_of_le (by omega), List.append_nil, blkP, hrs, hW64]

end Go.Proofs.YtolgjekokdimoaaGreatDoor
end

section
namespace Go.Proofs.YtolgjekokdimoaaGreatDoor
variable [LaidG]
set_option maxRecDepth 100000
set_option linter.unusedSimpArgs false

def szGo (l : Int) : List PV → Int
  | [] => l
  | e :: es => if l - e.S.length < 0 then -1 else szGo (l - e.S.length) es
def szStr (es : List PV) (l : Int) : Int := if l - es.length < 0 then -1 else szGo (l - es.length) es

def c_szStringS : FSpec := ⟨[(.rd, .list .str), (.rd, .int .i64)], [.int .i64], true, fun ps => 0 ≤ (nth ps 1).I, fun ps => [.int .i64 (szStr (nth ps 0).L (nth ps 1).I)], fun _ => []⟩
theorem k_szStringS : FnOk Tryz.prog 78 c_szStringS := by
  refine fn_mk [0, 1, 4, 5] [.tmp 4] (env_nil (tyTab_ok [])) mixed Tryz.func78 rfl (by decide) rfl (by decide) rfl ?_
  intro ps hT hpre W hW
  simp only [c_szStringS, TyA, Ty, Tys] at hT hpre
  obtain ⟨_, _, rfl, ⟨es, rfl, he, hes⟩, _, _, rfl, ⟨l, rfl, hl⟩, rfl⟩ := hT
  simp only [nth_zero, nth_succ, pv_I] at hpre
  refine hW.vc [] _ _ ?_
  simp [-List.getD_eq_getElem?_getD, c_szStringS]
  intro h1
  rw [inR64] at hl
  rw [wrap64 (by omega)]
  refine ⟨fun h => by simp [szStr, h], fun h => ?_⟩
  refine hW.loopS _ _ _ [.sl 1 .dp (.int .i64), .sl 5 .dp (.int .i64)] (fun ys => ∃ (x : Int) (i : Nat), ys = [.int .i64 x, .int .i64 i] ∧ 0 ≤ x ∧ x ≤ l ∧ i ≤ es.length ∧ szStr es l = szGo x (es.drop i)) (fun ys => es.length - (nth ys 1).I.toNat) ?_ ?_
  · simp [-List.getD_eq_getElem?_getD, c_szStringS]
    exact ⟨_, 0, ⟨rfl, rfl⟩, h, by omega, by simp, by simp [szStr, Int.not_lt.2 h]⟩
  · rintro ys ⟨x, i, rfl, h2, h3, h4, h5⟩
    refine hW.vc [] _ _ ?_
    simp [-List.getD_eq_getElem?_getD, c_szStringS]
    refine fun _ => ⟨fun h6 => ⟨h6, fun _ h7 => ?_⟩, fun h6 => ?_⟩
    · rw [drop_nth h6] at h5
      rw [wrap64 (by omega), wrap64 (by omega)]
      simp only [szGo] at h5
      refine ⟨fun h8 => by rw [h5, if_pos h8], fun h8 => ⟨⟨_, i + 1, ⟨rfl, by omega⟩, h8, by omega, by omega, ?_⟩, by omega⟩⟩
      rw [h5, if_neg (by omega)]
    · rw [List.drop_eq_nil_of_le h6] at h5
      exact h5.symm


theorem set_take {out es : List PV} {i : Nat} {x : PV} (h1 : out.take i = es.take i) (h2 : out.length = es.length) (h3 : i < es.length) (h4 : x = nth es i) : (out.set i x).take (i + 1) = es.take (i + 1) := by
  rw [take_nth h3, ← h1, take_nth (by simp; omega), List.take_set_of_le (Nat.le_refl _), nth_eq (by simp; omega), List.getElem_set_self, h4]

def c_toStringS : FSpec := ⟨[(.rd, .list .str)], [.list .str], true, fun ps => (nth ps 0).L.length ≤ 1048576, fun ps => [.list (nth ps 0).L], fun _ => []⟩
theorem k_toStringS : FnOk Tryz.prog 83 c_toStringS := by
  refine fn_mk [0, 2, 3, 4] [.tmp 2] (env_nil (tyTab_ok [])) mixed Tryz.func83 rfl (by decide) rfl (by decide) rfl ?_
  intro ps hT hpre W hW
  simp only [c_toStringS, TyA, Ty, Tys] at hT hpre
  obtain ⟨_, _, rfl, ⟨es, rfl, he, hes⟩, rfl⟩ := hT
  simp only [nth_zero, pv_L] at hpre
  refine hW.vc [] _ _ ?_
  simp [-List.getD_eq_getElem?_getD, c_toStringS]
  refine fun h1 => ⟨by omega, hW.loopS _ _ _ [.sl 3 .dp (.list .str), .sl 4 .dp (.int .i64)] (fun ys => ∃ (out : List PV) (i : Nat), ys = [.list out, .int .i64 i] ∧ i ≤ es.length ∧ out.length = es.length ∧ out.take i = es.take i) (fun ys => es.length - (nth ys 1).I.toNat) ?_ ?_⟩
  · simp [-List.getD_eq_getElem?_getD, c_toStringS]
    exact ⟨_, 0, ⟨rfl, rfl⟩, by simp, by simp, by simp⟩
  · rintro ys ⟨out, i, rfl, h2, h3, h4⟩
    refine hW.vc [] _ _ ?_
    simp [-List.getD_eq_getElem?_getD, c_toStringS]
    refine fun _ => ⟨fun h5 => ⟨h5, fun h6 => ⟨by omega, ?_⟩⟩, fun h5 => ?_⟩
    · obtain ⟨x, hx, _⟩ := hes _ (nth_mem h5)
      rw [wrap64 (by omega)]
      refine ⟨⟨_, i + 1, ⟨rfl, by omega⟩, by omega, by simp [h3], set_take h4 h3 h5 (by rw [hx, pv_S])⟩, by omega⟩
    · rw [List.take_of_length_le (by omega), List.take_of_length_le (by omega)] at h4
      exact h4

/-- Two rows are the same by their elements. -/
def eqL (f : PV → PV → Bool) : List PV → List PV → Bool
  | [], [] => true
  | a :: l, b :: m => f a b && eqL f l m
  | _, _ => false
theorem eqL_len {f : PV → PV → Bool} : ∀ {a b : List PV}, a.length ≠ b.length → eqL f a b = false
  | [], [], h => absurd rfl h
  | [], _ :: _, _ => rfl
  | _ :: _, [], _ => rfl
  | x :: a, y :: b, h => by simp only [eqL, eqL_len (a := a) (b := b) (by simpa using h), Bool.and_false]

def c_eqStringS : FSpec := ⟨[(.rd, .list .str), (.rd, .list .str)], [.bool], true, fun _ => True, fun ps => [.bool (eqL (fun x y => x.S == y.S) (nth ps 0).L (nth ps 1).L)], fun _ => []⟩
theorem k_eqStringS : FnOk Tryz.prog 89 c_eqStringS := by
  refine fn_mk [0, 1, 4, 5] [.tmp 4] (env_nil (tyTab_ok [])) mixed Tryz.func89 rfl (by decide) rfl (by decide) rfl ?_
  intro ps hT hpre W hW
  simp only [c_eqStringS, TyA, Ty, Tys] at hT hpre
  obtain ⟨_, _, rfl, ⟨es, rfl, he, hes⟩, _, _, rfl, ⟨es2, rfl, he2, hes2⟩, rfl⟩ := hT
  refine hW.vc [(6, [], .take 0 <| .take 1 <| .take 2 <| .take 3 <| .take 4 <| .take 5 <| .take 6 <| .take 7 <| .take 8 <| .done)] _ _ ?_
  simp [-List.getD_eq_getElem?_getD, c_eqStringS]
  refine fun h1 h2 => ⟨fun h3 => eqL_len (by omega), fun h3 => ?_⟩
  refine hW.loopS _ _ _ [.sl 5 .dp (.int .i64)] (fun ys => ∃ i : Nat, ys = [.int .i64 i] ∧ i ≤ es.length ∧ eqL (fun x y => x.S == y.S) es es2 = eqL (fun x y => x.S == y.S) (es.drop i) (es2.drop i)) (fun ys => es.length - (nth ys 0).I.toNat) ?_ ?_
  · simp [-List.getD_eq_getElem?_getD, c_eqStringS]
    exact ⟨0, rfl, by simp, by simp⟩
  · rintro ys ⟨i, rfl, h4, h5⟩
    refine hW.vc [(6, [], .take 0 <| .take 1 <| .take 2 <| .take 3 <| .take 4 <| .take 5 <| .take 6 <| .take 7 <| .take 8 <| .done)] _ _ ?_
    simp [-List.getD_eq_getElem?_getD, c_eqStringS]
    refine fun _ => ⟨fun h6 => ⟨by decide +kernel, h6, fun _ => ⟨by omega, fun _ => ?_⟩⟩, fun h6 => ?_⟩
    · rw [drop_nth h6, drop_nth (by omega : i < es2.length), eqL] at h5
      rw [wrap64 (by omega)]
      refine ⟨fun h7 => by rw [h5]; simp [h7], fun h7 => ⟨⟨i + 1, by omega, by omega, by rw [h5]; simp [h7]⟩, by omega⟩⟩
    · rw [h5, List.drop_eq_nil_of_le h6, List.drop_eq_nil_of_le (by omega)]; rfl

end Go.Proofs.YtolgjekokdimoaaGreatDoor
end

section
namespace Go.Proofs.YtolgjekokdimoaaGreatDoor
variable [LaidG]
set_option maxRecDepth 100000
set_option linter.unusedSimpArgs false

theorem wrapU8 {n : Int} (h : 0 ≤ n ∧ n ≤ 255) : IntKind.u8.wrap n = n := by
  simp [IntKind.wrap, IntKind.signed, IntKind.bits]; omega

def digs (n : Nat) : List UInt8 := if h : n = 0 then [] else digs (n / 10) ++ [UInt8.ofNat (48 + n % 10)]
termination_by n
decreasing_by omega
def mtext (k : Int) : List UInt8 := if k ≤ 0 then [109, 48] else 109 :: digs k.toNat

def c_markText : FSpec := ⟨[(.rd, .int .i64)], [.str], true, fun ps => (nth ps 0).I ≤ 1073741824, fun ps => [.str (mtext (nth ps 0).I)], fun _ => []⟩
theorem k_markText : FnOk Tryz.prog 92 c_markText := by
  refine fn_mk [0, 2, 3] [.tmp 2] (env_nil (tyTab_ok [])) mixed Tryz.func92 rfl (by decide) rfl (by decide) rfl ?_
  intro ps hT hpre W hW
  simp only [c_markText, TyA, Ty, Tys] at hT hpre
  obtain ⟨_, _, rfl, ⟨k, rfl, hk⟩, rfl⟩ := hT
  simp only [nth_zero, pv_I] at hpre
  rw [inR64] at hk
  refine hW.vc [] _ _ ?_
  simp [-List.getD_eq_getElem?_getD, c_markText]
  refine ⟨fun h => by rw [mtext, if_pos h], fun h => hW.loopS _ _ _ [.sl 3 .dp .str, .sl 0 .dp (.int .i64)] (fun ys => ∃ (out : List UInt8) (x : Int), ys = [.str out, .int .i64 x] ∧ 0 ≤ x ∧ x ≤ k ∧ out.length + x ≤ k ∧ digs k.toNat = digs x.toNat ++ out) (fun ys => (nth ys 1).I.toNat) ?_ ?_⟩
  · simp [-List.getD_eq_getElem?_getD, c_markText]
    exact ⟨_, _, ⟨rfl, rfl⟩, by omega, by omega, by simp, by simp⟩
  · rintro ys ⟨out, x, rfl, h2, h3, h4, h5⟩
    refine hW.vc [] _ _ ?_
    simp [-List.getD_eq_getElem?_getD, c_markText, pvBytes]
    obtain ⟨m, rfl⟩ := Int.eq_ofNat_of_zero_le h2
    have e1 : ((m : Int)).tmod 10 = ((m % 10 : Nat) : Int) := rfl
    have e2 : ((m : Int)).tdiv 10 = ((m / 10 : Nat) : Int) := rfl
    rw [e1, e2, wrap64 (n := 48 + ((m % 10 : Nat) : Int)) (by omega), wrap64 (n := ((m / 10 : Nat) : Int)) (by omega), wrapU8 (by omega)]
    refine ⟨fun h6 => ⟨by omega, ⟨_, _, ⟨rfl, rfl⟩, by omega, by omega, by simp only [List.length_cons]; omega, ?_⟩, by omega⟩, fun h6 => ⟨by omega, ?_⟩⟩
    · have h7 : m ≠ 0 := by omega
      have e3 : (48 + ((m % 10 : Nat) : Int)).toNat = 48 + m % 10 := by omega
      rw [h5, e3, Int.toNat_natCast, Int.toNat_natCast, digs, dif_neg h7, List.append_assoc]; rfl
    · have h7 : m = 0 := by omega
      subst h7
      rw [mtext, if_neg (by omega), h5]
      simp [digs]

def markS (k : Int) : Nat → List PV
  | 0 => []
  | n + 1 => .str (mtext k) :: markS (k + 1) n
theorem markS_len : ∀ (n : Nat) (k : Int), (markS k n).length = n
  | 0, _ => rfl
  | n + 1, k => by simp [markS, markS_len n]
theorem markS_snoc : ∀ (n : Nat) (k : Int), markS k (n + 1) = markS k n ++ [.str (mtext (k + n))]
  | 0, k => by simp [markS]
  | n + 1, k => by
    rw [markS, markS_snoc n (k + 1), markS, List.cons_append]
    simp only [List.cons.injEq, true_and, List.append_cancel_left_eq, and_true, PV.str.injEq]
    congr 1; omega

theorem nth_set {l : List PV} {i : Nat} {x : PV} (h : i < l.length) : nth (l.set i x) i = x := by simp [nth, h]
theorem mark_step {m es : List PV} {i : Nat} {x : PV} {m' : List PV} (h1 : m.length = i) (h2 : i < es.length) (h3 : m' = m ++ [x]) : (m ++ es.drop i).set i x = m' ++ es.drop (i + 1) := by
  subst h3
  rw [List.set_append_right _ _ (by omega), h1, Nat.sub_self, drop_nth h2, List.set_cons_zero, List.append_assoc, List.singleton_append]

def c_markStringS : FSpec := ⟨[(.mt, .list .str), (.rd, .int .i64)], [.int .i64], true, fun ps => 0 ≤ (nth ps 1).I ∧ (nth ps 1).I + (nth ps 0).L.length ≤ 1073741824, fun ps => [.int .i64 ((nth ps 1).I + (nth ps 0).L.length)], fun ps => [.list (markS (nth ps 1).I (nth ps 0).L.length)]⟩
theorem k_markStringS : FnOk Tryz.prog 91 c_markStringS := by
  refine fn_mk [0, 1, 4, 5] [.tmp 4] (env_cons (cs := []) k_markText (env_nil (tyTab_ok []))) mixed Tryz.func91 rfl (by decide) rfl (by decide) rfl ?_
  intro ps hT hpre W hW
  simp only [c_markStringS, TyA, Ty, Tys] at hT hpre
  obtain ⟨_, _, rfl, ⟨es, rfl, hes, tes⟩, _, _, rfl, ⟨k, rfl, hk⟩, rfl⟩ := hT
  simp only [nth_zero, nth_succ, pv_I, pv_L] at hpre
  refine hW.vc [] _ _ ?_
  simp [-List.getD_eq_getElem?_getD, c_markStringS, c_markText]
  refine hW.loopS _ _ _ [.ar 0 .str, .sl 1 .dp (.int .i64), .sl 5 .dp (.int .i64)] (fun ys => ∃ i : Nat, ys = [.list (markS k i ++ es.drop i), .int .i64 (k + i), .int .i64 i] ∧ i ≤ es.length) (fun ys => es.length - (nth ys 2).I.toNat) ?_ ?_
  · simp [-List.getD_eq_getElem?_getD, c_markStringS, c_markText]
    exact ⟨0, ⟨by simp [markS], by omega, rfl⟩, by omega⟩
  · rintro ys ⟨i, rfl, h2⟩
    refine hW.vc [] _ _ ?_
    simp [-List.getD_eq_getElem?_getD, c_markStringS, c_markText]
    rw [markS_len]
    refine fun _ => ⟨fun h3 => ⟨by omega, by omega, by omega, ⟨i + 1, ⟨?_, by rw [wrap64 (by omega)]; omega, by rw [wrap64 (by omega)]; omega⟩, by omega⟩, by rw [wrap64 (by omega)]; omega⟩, fun h3 => ?_⟩
    · exact mark_step (markS_len i k) (by omega) (markS_snoc i k)
    · have : i = es.length := by omega
      subst this
      simp

def heldGo (f : Int → PV → Bool) (d : Int) (k : Int) : List PV → Int
  | [] => k
  | e :: es => if f k e then heldGo f d (k + d) es else -1
theorem held_neg {f : Int → PV → Bool} {d : Int} (hd : 0 ≤ d) : ∀ {es : List PV} {k : Int}, 0 ≤ k → heldGo f d k es < 0 → heldGo f d k es = -1
  | [], k, hk, h => by simp only [heldGo] at h; omega
  | e :: es, k, hk, h => by
    simp only [heldGo] at h ⊢
    split
    · rename_i h1
      rw [if_pos h1] at h
      exact held_neg hd (by omega) h
    · rfl
def heldS1 (k : Int) (e : PV) : Bool := e.S == mtext k
theorem held_marked {f : Int → PV → Bool} {d : Int} {m : Int → Nat → List PV} (h0 : ∀ k, m k 0 = []) (h1 : ∀ k n, ∃ x, m k (n + 1) = x :: m (k + d) n ∧ f k x = true) : ∀ (n : Nat) (k : Int), heldGo f d k (m k n) = k + d * n
  | 0, k => by simp [h0, heldGo]
  | n + 1, k => by
    obtain ⟨x, h2, h3⟩ := h1 k n
    rw [h2, heldGo, if_pos h3, held_marked h0 h1 n, Int.natCast_add, Int.mul_add]; omega
theorem heldS_mark (n : Nat) (k : Int) : heldGo heldS1 1 k (markS k n) = k + n := by
  rw [held_marked (m := markS) (fun _ => rfl) (fun k n => ⟨_, rfl, by simp [heldS1, pv_S]⟩), Int.one_mul]

def c_heldStringS : FSpec := ⟨[(.rd, .list .str), (.rd, .int .i64)], [.int .i64], true, fun ps => 0 ≤ (nth ps 1).I ∧ (nth ps 1).I + (nth ps 0).L.length ≤ 1073741824, fun ps => [.int .i64 (heldGo heldS1 1 (nth ps 1).I (nth ps 0).L)], fun _ => []⟩
theorem k_heldStringS : FnOk Tryz.prog 93 c_heldStringS := by
  refine fn_mk [0, 1, 4, 5] [.tmp 4] (env_cons (cs := []) k_markText (env_nil (tyTab_ok []))) mixed Tryz.func93 rfl (by decide) rfl (by decide) rfl ?_
  intro ps hT hpre W hW
  simp only [c_heldStringS, TyA, Ty, Tys] at hT hpre
  obtain ⟨_, _, rfl, ⟨es, rfl, hes, tes⟩, _, _, rfl, ⟨k, rfl, hk⟩, rfl⟩ := hT
  simp only [nth_zero, nth_succ, pv_I, pv_L] at hpre
  refine hW.vc [(4, [], .take 0 <| .take 1 <| .take 2 <| .take 3 <| .take 4 <| .alt 5 (.take 6 <| .done) .stop)] _ _ ?_
  simp [-List.getD_eq_getElem?_getD, c_heldStringS, c_markText]
  refine hW.loopS _ _ _ [.sl 1 .dp (.int .i64), .sl 5 .dp (.int .i64)] (fun ys => ∃ i : Nat, ys = [.int .i64 (k + i), .int .i64 i] ∧ i ≤ es.length ∧ heldGo heldS1 1 k es = heldGo heldS1 1 (k + i) (es.drop i)) (fun ys => es.length - (nth ys 1).I.toNat) ?_ ?_
  · simp [-List.getD_eq_getElem?_getD, c_heldStringS, c_markText]
    exact ⟨0, ⟨by omega, rfl⟩, by omega, by simp⟩
  · rintro ys ⟨i, rfl, h2, h3⟩
    refine hW.vc [(4, [], .take 0 <| .take 1 <| .take 2 <| .take 3 <| .take 4 <| .alt 5 (.take 6 <| .done) .stop)] _ _ ?_
    simp [-List.getD_eq_getElem?_getD, c_heldStringS, c_markText]
    refine fun _ => ⟨fun h4 => ⟨by decide +kernel, h4, fun _ => ⟨by omega, fun h5 => ?_, fun h5 => ?_⟩⟩, fun h4 => ?_⟩
    · rw [h3, drop_nth h4, heldGo, if_neg (by simpa [heldS1] using h5)]
    · rw [wrap64 (by omega), wrap64 (by omega)]
      refine ⟨⟨i + 1, ⟨by omega, by omega⟩, by omega, ?_⟩, by omega⟩
      rw [h3, drop_nth h4, heldGo, if_pos (by simpa [heldS1] using h5), Int.natCast_add, ← Int.add_assoc]; rfl
    · rw [h3, List.drop_eq_nil_of_le h4]; rfl

/-- Rows marked. -/
def markR (k : Int) : Nat → List PV
  | 0 => []
  | n + 1 => .agg [.int .i64 k, .str (mtext (k + 1))] :: markR (k + 2) n
theorem markR_len : ∀ (n : Nat) (k : Int), (markR k n).length = n
  | 0, _ => rfl
  | n + 1, k => by simp [markR, markR_len n]
theorem markR_snoc : ∀ (n : Nat) (k : Int), markR k (n + 1) = markR k n ++ [.agg [.int .i64 (k + 2 * n), .str (mtext (k + 2 * n + 1))]]
  | 0, k => by simp [markR]
  | n + 1, k => by
    rw [markR, markR_snoc n (k + 2), markR, List.cons_append]
    have e : k + 2 + 2 * (n : Int) = k + 2 * ((n + 1 : Nat) : Int) := by omega
    rw [e]
def c_markRowS : FSpec := ⟨[(.mt, .list (.agg [.int .i64, .str])), (.rd, .int .i64)], [.int .i64], true, fun ps => 0 ≤ (nth ps 1).I ∧ (nth ps 1).I + 2 * (nth ps 0).L.length ≤ 1073741823, fun ps => [.int .i64 ((nth ps 1).I + 2 * (nth ps 0).L.length)], fun ps => [.list (markR (nth ps 1).I (nth ps 0).L.length)]⟩
theorem k_markRowS : FnOk Tryz.prog 51 c_markRowS := by
  refine fn_mk [0, 1, 4, 5] [.tmp 4] (env_cons (cs := []) k_markText (env_nil (tyTab_ok []))) mixed Tryz.func51 rfl (by decide) rfl (by decide) rfl ?_
  intro ps hT hpre W hW
  simp only [c_markRowS, TyA, Ty, Tys] at hT hpre
  obtain ⟨_, _, rfl, ⟨es, rfl, hes, tes⟩, _, _, rfl, ⟨k, rfl, hk⟩, rfl⟩ := hT
  simp only [nth_zero, nth_succ, pv_I, pv_L] at hpre
  refine hW.vc [] _ _ ?_
  simp [-List.getD_eq_getElem?_getD, c_markRowS, c_markText]
  refine hW.loopS _ _ _ [.ar 0 (.agg [.int .i64, .str]), .sl 1 .dp (.int .i64), .sl 5 .dp (.int .i64)] (fun ys => ∃ i : Nat, ys = [.list (markR k i ++ es.drop i), .int .i64 (k + 2 * i), .int .i64 i] ∧ i ≤ es.length) (fun ys => es.length - (nth ys 2).I.toNat) ?_ ?_
  · simp [-List.getD_eq_getElem?_getD, c_markRowS, c_markText]
    exact ⟨0, ⟨by simp [markR], by omega, rfl⟩, by omega⟩
  · rintro ys ⟨i, rfl, h2⟩
    refine hW.vc [] _ _ ?_
    simp [-List.getD_eq_getElem?_getD, c_markRowS, c_markText]
    rw [markR_len]
    have e1 : IntKind.i64.wrap (k + 2 * (i : Int) + 1) = k + 2 * i + 1 := wrap64 (by omega)
    rw [e1, wrap64 (n := k + 2 * (i : Int) + 1 + 1) (by omega), wrap64 (n := (i : Int) + 1) (by omega)]
    refine fun _ => ⟨fun h3 => ⟨by omega, by omega, by omega, by omega, by omega, ⟨i + 1, ⟨?_, by omega, by omega⟩, by omega⟩, by omega⟩, fun h3 => ?_⟩
    · rw [nth_set (by rw [List.length_append, markR_len, List.length_drop]; omega), pv_A, nth_zero]
      exact mark_step (markR_len i k) (by omega) (markR_snoc i k)
    · have : i = es.length := by omega
      subst this
      simp

def heldR1 (k : Int) (e : PV) : Bool := (nth e.A 0).I == k && (nth e.A 1).S == mtext (k + 1)
theorem heldR_mark (n : Nat) (k : Int) : heldGo heldR1 2 k (markR k n) = k + 2 * n := by
  rw [held_marked (m := markR) (fun _ => rfl) (fun k n => ⟨_, rfl, by simp [heldR1, pv_S, pv_I, pv_A, nth_zero, nth_succ]⟩)]

def c_heldRowS : FSpec := ⟨[(.rd, .list (.agg [.int .i64, .str])), (.rd, .int .i64)], [.int .i64], true, fun ps => 0 ≤ (nth ps 1).I ∧ (nth ps 1).I + 2 * (nth ps 0).L.length ≤ 1073741823, fun ps => [.int .i64 (heldGo heldR1 2 (nth ps 1).I (nth ps 0).L)], fun _ => []⟩
def c_markView : FSpec := ⟨[(.mt, .agg [.int .i64, .int .i64, .bool, .int .i64, .int .i64, .list (.agg [.int .i64, .str])]), (.rd, .int .i64)], [.int .i64], true, fun ps => 0 ≤ (nth ps 1).I ∧ (nth ps 1).I + 2 * (nth (nth ps 0).A 5).L.length ≤ 1073741823, fun ps => [.int .i64 ((nth ps 1).I + 2 * (nth (nth ps 0).A 5).L.length)],
  fun ps => [.agg [nth (nth ps 0).A 0, nth (nth ps 0).A 1, nth (nth ps 0).A 2, nth (nth ps 0).A 3, nth (nth ps 0).A 4, .list (markR (nth ps 1).I (nth (nth ps 0).A 5).L.length)]]⟩
theorem k_markView : FnOk Tryz.prog 16 c_markView := by
  refine fn_mk [0, 1, 2, 4] [.tmp 4] (env_cons (cs := []) k_markRowS (env_nil (tyTab_ok []))) mixed Tryz.func16 rfl (by decide) rfl (by decide) rfl ?_
  intro ps hT hpre W hW
  simp only [c_markView, TyA, Ty, Tys] at hT hpre
  obtain ⟨_, _, rfl, ⟨_, rfl, _, _, rfl, ⟨n, rfl, hn⟩, _, _, rfl, ⟨f, rfl, hf⟩, _, _, rfl, ⟨u, rfl⟩, _, _, rfl, ⟨w, rfl, hw⟩, _, _, rfl, ⟨h, rfl, hh⟩, _, _, rfl, ⟨es, rfl, hes, tes⟩, rfl⟩, _, _, rfl, ⟨k, rfl, hk⟩, rfl⟩ := hT
  simp only [nth_zero, nth_succ, pv_I, pv_L, pv_A] at hpre
  refine hW.vc [] _ _ ?_
  simp [-List.getD_eq_getElem?_getD, c_markView, c_markRowS]
  exact hpre
def c_heldView : FSpec := ⟨[(.rd, .agg [.int .i64, .int .i64, .bool, .int .i64, .int .i64, .list (.agg [.int .i64, .str])]), (.rd, .int .i64)], [.int .i64], true, fun ps => 0 ≤ (nth ps 1).I ∧ (nth ps 1).I + 2 * (nth (nth ps 0).A 5).L.length ≤ 1073741823, fun ps => [.int .i64 (heldGo heldR1 2 (nth ps 1).I (nth (nth ps 0).A 5).L)], fun _ => []⟩
def c_markMirror : FSpec := ⟨[(.mt, .agg [.int .i64, .int .i64, .int .i64, .list .str]), (.rd, .int .i64)], [.int .i64], true, fun ps => 0 ≤ (nth ps 1).I ∧ (nth ps 1).I + (nth (nth ps 0).A 3).L.length ≤ 1073741823, fun ps => [.int .i64 ((nth ps 1).I + (nth (nth ps 0).A 3).L.length)],
  fun ps => [.agg [nth (nth ps 0).A 0, nth (nth ps 0).A 1, nth (nth ps 0).A 2, .list (markS (nth ps 1).I (nth (nth ps 0).A 3).L.length)]]⟩
theorem k_markMirror : FnOk Tryz.prog 50 c_markMirror := by
  refine fn_mk [0, 1, 2, 4] [.tmp 4] (env_cons (cs := []) k_markStringS (env_nil (tyTab_ok []))) mixed Tryz.func50 rfl (by decide) rfl (by decide) rfl ?_
  intro ps hT hpre W hW
  simp only [c_markMirror, TyA, Ty, Tys] at hT hpre
  obtain ⟨_, _, rfl, ⟨_, rfl, _, _, rfl, ⟨n, rfl, hn⟩, _, _, rfl, ⟨w, rfl, hw⟩, _, _, rfl, ⟨h, rfl, hh⟩, _, _, rfl, ⟨es, rfl, hes, tes⟩, rfl⟩, _, _, rfl, ⟨k, rfl, hk⟩, rfl⟩ := hT
  simp only [nth_zero, nth_succ, pv_I, pv_L, pv_A] at hpre
  refine hW.vc [] _ _ ?_
  simp [-List.getD_eq_getElem?_getD, c_markMirror, c_markStringS]
  omega
def c_heldMirror : FSpec := ⟨[(.rd, .agg [.int .i64, .int .i64, .int .i64, .list .str]), (.rd, .int .i64)], [.int .i64], true, fun ps => 0 ≤ (nth ps 1).I ∧ (nth ps 1).I + (nth (nth ps 0).A 3).L.length ≤ 1073741823, fun ps => [.int .i64 (heldGo heldS1 1 (nth ps 1).I (nth (nth ps 0).A 3).L)], fun _ => []⟩
theorem k_heldMirror : FnOk Tryz.prog 52 c_heldMirror := by
  refine fn_mk [0, 1, 2, 4] [.tmp 4] (env_cons (cs := []) k_heldStringS (env_nil (tyTab_ok []))) mixed Tryz.func52 rfl (by decide) rfl (by decide) rfl ?_
  intro ps hT hpre W hW
  simp only [c_heldMirror, TyA, Ty, Tys] at hT hpre
  obtain ⟨_, _, rfl, ⟨_, rfl, _, _, rfl, ⟨n, rfl, hn⟩, _, _, rfl, ⟨w, rfl, hw⟩, _, _, rfl, ⟨h, rfl, hh⟩, _, _, rfl, ⟨es, rfl, hes, tes⟩, rfl⟩, _, _, rfl, ⟨k, rfl, hk⟩, rfl⟩ := hT
  simp only [nth_zero, nth_succ, pv_I, pv_L, pv_A] at hpre
  refine hW.vc [] _ _ ?_
  simp [-List.getD_eq_getElem?_getD, c_heldMirror, c_heldStringS]
  exact ⟨by omega, fun h1 => (held_neg (by omega) (by omega) h1).symm⟩

end Go.Proofs.YtolgjekokdimoaaGreatDoor
end

section
namespace Go.Proofs.YtolgjekokdimoaaGreatDoor
variable [LaidG]
set_option maxRecDepth 100000
set_option linter.unusedSimpArgs false

def numB (l : List UInt8) : Int := l.foldl (fun n b => n * 256 + b.toNat) 0
theorem numB_snoc (l : List UInt8) (b : UInt8) : numB (l ++ [b]) = numB l * 256 + b.toNat := by simp [numB]
theorem numB_take {l : List UInt8} {i : Nat} (h : i < l.length) : numB (l.take (i + 1)) = numB (l.take i) * 256 + (l.getD i 0).toNat := by
  rw [List.take_succ_eq_append_getElem h, numB_snoc]; simp [h]
theorem numB_bound : ∀ (n : Nat) (l : List UInt8), l.length = n → 0 ≤ numB l ∧ numB l < 256 ^ n
  | 0, l, h => by have := List.eq_nil_of_length_eq_zero h; subst this; simp [numB]
  | n + 1, l, h => by
    have h0 : l ≠ [] := by intro e; subst e; simp at h
    have h1 := List.dropLast_concat_getLast h0
    have h2 := numB_bound n l.dropLast (by simp [h])
    have h3 := (l.getLast h0).toNat_lt
    rw [← h1, numB_snoc, Int.pow_succ]
    omega
theorem numB_le {l : List UInt8} (h : l.length ≤ 7) (i : Nat) : 0 ≤ numB (l.take i) ∧ numB (l.take i) < 72057594037927936 := by
  have h1 := numB_bound (l.take i).length (l.take i) rfl
  refine ⟨h1.1, Int.lt_of_lt_of_le h1.2 ?_⟩
  have h2 : (l.take i).length ≤ 7 := by simp; omega
  have h3 : (256 : Int) ^ (l.take i).length ≤ 256 ^ 7 := by
    have := Nat.pow_le_pow_right (n := 256) (by decide) h2
    exact_mod_cast this
  exact Int.le_trans h3 (by decide)
theorem numB_le6 {l : List UInt8} (h : l.length ≤ 7) {i : Nat} (hi : i < l.length) : 0 ≤ numB (l.take i) ∧ numB (l.take i) < 281474976710656 := by
  have h1 := numB_bound (l.take i).length (l.take i) rfl
  refine ⟨h1.1, Int.lt_of_lt_of_le h1.2 ?_⟩
  have h2 : (l.take i).length ≤ 6 := by simp; omega
  have h3 : (256 : Int) ^ (l.take i).length ≤ 256 ^ 6 := by
    have := Nat.pow_le_pow_right (n := 256) (by decide) h2
    exact_mod_cast this
  exact Int.le_trans h3 (by decide)

theorem or_byte {m : Int} {b : UInt8} (h0 : 0 ≤ m) (h1 : m < 281474976710656) : orI .i64 (m * 256) b.toNat = m * 256 + b.toNat := by
  obtain ⟨k, rfl⟩ := Int.eq_ofNat_of_zero_le h0
  have hb := b.toNat_lt
  unfold orI
  have hw : IntKind.i64.bits = 64 := rfl
  rw [hw]
  have e1 : (BitVec.ofInt 64 ((k : Int) * 256)).toNat = k * 256 := by
    rw [show (k : Int) * 256 = ((k * 256 : Nat) : Int) by simp, BitVec.ofInt_natCast, BitVec.toNat_ofNat]
    exact Nat.mod_eq_of_lt (by omega)
  have e2 : (BitVec.ofInt 64 (b.toNat : Int)).toNat = b.toNat := by
    rw [BitVec.ofInt_natCast, BitVec.toNat_ofNat]
    exact Nat.mod_eq_of_lt (by omega)
  rw [BitVec.toNat_or, e1, e2]
  have e3 : k * 256 ||| b.toNat = k * 256 + b.toNat := by
    have := Nat.shiftLeft_add_eq_or_of_lt (i := 8) (b := b.toNat) (by omega) k
    rw [Nat.shiftLeft_eq] at this
    exact this.symm
  rw [e3]
  rw [wrap64 (by omega)]
  simp

theorem conv_byte (b : UInt8) : IntKind.i64.wrap (b.toNat : Int) = b.toNat := wrap64 (by have := b.toNat_lt; omega)

def c_l02Of : FSpec := ⟨[(.rd, .str)], [.int .i64], true, fun ps => (nth ps 0).S.length ≤ 7, fun ps => [.int .i64 (numB (nth ps 0).S)], fun _ => []⟩
theorem k_l02Of : FnOk Tryz.prog 118 c_l02Of := by
  refine fn_mk [0, 2, 3, 4] [.tmp 2] (env_nil (tyTab_ok [])) mixed Tryz.func118 rfl (by decide) rfl (by decide) rfl ?_
  intro ps hT hpre W hW
  simp only [c_l02Of, TyA, Ty, Tys] at hT hpre
  obtain ⟨_, _, rfl, ⟨l, rfl, hl⟩, rfl⟩ := hT
  simp only [nth_zero, pv_S] at hpre
  refine hW.vc [] _ _ ?_
  simp [-List.getD_eq_getElem?_getD, c_l02Of]
  refine hW.loopS _ _ _ [.sl 3 .dp (.int .i64), .sl 4 .dp (.int .i64)] (fun ys => ∃ i : Nat, ys = [.int .i64 (numB (l.take i)), .int .i64 i] ∧ i ≤ l.length) (fun ys => l.length - (nth ys 1).I.toNat) ?_ ?_
  · simp [-List.getD_eq_getElem?_getD, c_l02Of]
    exact ⟨0, ⟨by simp [numB], rfl⟩, by simp⟩
  · rintro ys ⟨i, rfl, h4⟩
    refine hW.vc [] _ _ ?_
    simp [-List.getD_eq_getElem?_getD, c_l02Of]
    refine fun _ => ⟨fun h6 => ⟨h6, ?_⟩, fun h6 => by rw [List.take_of_length_le h6]⟩
    have h7 := numB_le hpre i
    have h8 := numB_le6 hpre h6
    have h9 := (l.getD i 0).toNat_lt
    rw [conv_byte, wrap64 (n := numB (l.take i) * 256) (by omega), wrap64 (by omega), wrap64 (by omega)]
    exact ⟨⟨i + 1, ⟨(numB_take h6).symm, by omega⟩, by omega⟩, by omega⟩

def c_bigNumber : FSpec := c_l02Of
theorem k_bigNumber : FnOk Tryz.prog 115 c_bigNumber := by
  refine fn_mk [0, 2, 3, 4, 6, 7] [.tmp 2] (env_nil (tyTab_ok [])) mixed Tryz.func115 rfl (by decide) rfl (by decide) rfl ?_
  intro ps hT hpre W hW
  simp only [c_bigNumber, TyA, Ty, Tys] at hT hpre
  simp only [c_l02Of, TyA, Ty] at hT hpre
  obtain ⟨_, _, rfl, ⟨l, rfl, hl⟩, rfl⟩ := hT
  simp only [nth_zero, pv_S] at hpre
  refine hW.vc [] _ _ ?_
  simp [-List.getD_eq_getElem?_getD, c_bigNumber, c_l02Of, c_l02Of]
  intro h0
  refine hW.loopS _ _ _ [.sl 3 .dp (.int .i64), .sl 7 .dp (.int .i64)] (fun ys => ∃ i : Nat, ys = [.int .i64 (numB (l.take i)), .int .i64 i] ∧ i ≤ l.length) (fun ys => l.length - (nth ys 1).I.toNat) ?_ ?_
  · simp [-List.getD_eq_getElem?_getD, c_bigNumber, c_l02Of]
    exact ⟨0, ⟨by simp [numB], rfl⟩, by simp⟩
  · rintro ys ⟨i, rfl, h4⟩
    refine hW.vc [] _ _ ?_
    simp [-List.getD_eq_getElem?_getD, c_bigNumber, c_l02Of, c_l02Of]
    refine ⟨fun h6 => ⟨h6, ?_⟩, fun h6 => by rw [List.take_of_length_le h6]⟩
    have h7 := numB_le hpre i
    have h8 := numB_le6 hpre h6
    have h9 := (l.getD i 0).toNat_lt
    rw [conv_byte, show shlI IntKind.i64 (numB (List.take i l)) 8 = IntKind.i64.wrap (numB (l.take i) * 256) from rfl, wrap64 (n := numB (l.take i) * 256) (by omega), wrap64 (by omega), or_byte h8.1 h8.2]
    exact ⟨⟨i + 1, ⟨(numB_take h6).symm, by omega⟩, by omega⟩, by omega⟩

def runeOk (n : Int) : Bool := inB n 0 1114111 && !inB n 55296 57343
def isRuneB (n : Int) : Bool := inB n 32 1114111 && (n != 127) && !inB n 55296 57343
def cellB (r k : Int) : Bool := runeOk r && decide (r ≥ 32) && (r != 127) && inB k 0 127

def c_l03RuneOK : FSpec := ⟨[(.rd, .int .i64)], [.bool], true, fun _ => True, fun ps => [.bool (runeOk (nth ps 0).I)], fun _ => []⟩
theorem k_l03RuneOK : FnOk Tryz.prog 147 c_l03RuneOK := by
  refine fn_mk [0, 2] [.tmp 2] (env_cons (cs := []) k_l01In (env_nil (tyTab_ok []))) mixed Tryz.func147 rfl (by decide) rfl (by decide) rfl ?_
  intro ps hT hpre W hW
  simp only [c_l03RuneOK, TyA, Ty, Tys] at hT hpre
  obtain ⟨_, _, rfl, ⟨a, rfl, ha⟩, rfl⟩ := hT
  refine hW.vc [] _ _ ?_
  simp [-List.getD_eq_getElem?_getD, c_l03RuneOK, c_l01In, c_within, c_within]
  rfl

def c_isRune : FSpec := ⟨[(.rd, .int .i64)], [.bool], true, fun _ => True, fun ps => [.bool (isRuneB (nth ps 0).I)], fun _ => []⟩
theorem k_isRune : FnOk Tryz.prog 122 c_isRune := by
  refine fn_mk [0, 2] [.tmp 2] (env_cons (cs := []) k_within (env_nil (tyTab_ok []))) mixed Tryz.func122 rfl (by decide) rfl (by decide) rfl ?_
  intro ps hT hpre W hW
  simp only [c_isRune, TyA, Ty, Tys] at hT hpre
  obtain ⟨_, _, rfl, ⟨a, rfl, ha⟩, rfl⟩ := hT
  refine hW.vc [] _ _ ?_
  simp [-List.getD_eq_getElem?_getD, c_isRune, c_within]
  simp only [isRuneB]; congr 2

def c_l04Cell : FSpec := ⟨[(.rd, .agg [.int .i64, .int .i64])], [.bool], true, fun _ => True, fun ps => [.bool (cellB (nth (nth ps 0).A 0).I (nth (nth ps 0).A 1).I)], fun _ => []⟩
theorem k_l04Cell : FnOk Tryz.prog 120 c_l04Cell := by
  refine fn_mk [0, 1, 2] [.tmp 2] (env_cons (cs := []) k_l01In (env_cons (cs := []) k_l03RuneOK (env_nil (tyTab_ok [])))) mixed Tryz.func120 rfl (by decide) rfl (by decide) rfl ?_
  intro ps hT hpre W hW
  simp only [c_l04Cell, TyA, Ty, Tys] at hT hpre
  obtain ⟨_, _, rfl, ⟨_, rfl, _, _, rfl, ⟨a, rfl, ha⟩, _, _, rfl, ⟨b, rfl, hb⟩, rfl⟩, rfl⟩ := hT
  refine hW.vc [] _ _ ?_
  simp [-List.getD_eq_getElem?_getD, c_l04Cell, c_l03RuneOK, c_l01In, c_within, c_within]
  simp only [cellB]; congr 2

/-- A row is so many cells of four bytes each. -/
def rowGo : List UInt8 → Bool
  | [] => true
  | a :: b :: c :: d :: l => isRuneB (numB [a, b, c]) && decide (d.toNat ≤ 127) && rowGo l
  | _ => false
def rowB (l : List UInt8) (w : Int) : Bool := decide ((l.length : Int) = 4 * w) && rowGo l

theorem rowGo_step {r : List UInt8} (h : 4 ≤ r.length) : rowGo r = (isRuneB (numB (r.take 3)) && decide ((r.getD 3 0).toNat ≤ 127) && rowGo (r.drop 4)) := by
  match r, h with
  | a :: b :: c :: d :: l, _ => rfl
theorem cell_eq (n : Int) (d : UInt8) : cellB n d.toNat = (isRuneB n && decide (d.toNat ≤ 127)) := by
  rw [Bool.eq_iff_iff]
  simp [cellB, isRuneB, runeOk, inB]
  omega
theorem row_off {l : List UInt8} {n : Nat} (i : Nat) : (l.drop n).getD i 0 = l.getD (n + i) 0 := by
  simp only [List.getD_eq_getElem?_getD, List.getElem?_drop]

def c_isRow : FSpec := ⟨[(.rd, .str), (.rd, .int .i64)], [.bool], true, fun ps => 0 ≤ (nth ps 1).I ∧ (nth ps 1).I ≤ 1000, fun ps => [.bool (rowB (nth ps 0).S (nth ps 1).I)], fun _ => []⟩
theorem k_isRow : FnOk Tryz.prog 87 c_isRow := by
  refine fn_mk [0, 1, 4] [.tmp 4] (env_cons (cs := []) k_isRune (env_cons (cs := []) k_bigNumber (env_nil (tyTab_ok [])))) mixed Tryz.func87 rfl (by decide) rfl (by decide) rfl ?_
  intro ps hT hpre W hW
  simp only [c_isRow, TyA, Ty, Tys] at hT hpre
  obtain ⟨_, _, rfl, ⟨l, rfl, hl⟩, _, _, rfl, ⟨w, rfl, hw⟩, rfl⟩ := hT
  simp only [nth_zero, nth_succ, pv_S, pv_I] at hpre
  refine hW.vc [] _ _ ?_
  simp [-List.getD_eq_getElem?_getD, c_isRow, c_bigNumber, c_isRune, c_l02Of]
  intro h1
  rw [wrap64 (by omega)]
  refine ⟨fun h => by simp [rowB, h], fun h => ?_⟩
  refine hW.loopS _ _ _ [.sl 0 .dp .str] (fun ys => ∃ r, ys = [.str r] ∧ (∃ k, r.length = 4 * k) ∧ r.length ≤ l.length ∧ rowB l w = rowGo r) (fun ys => (nth ys 0).S.length) ?_ ?_
  · simp [-List.getD_eq_getElem?_getD, c_isRow, c_bigNumber, c_isRune, c_l02Of]
    exact ⟨⟨w.toNat, by omega⟩, by simp [rowB, h]⟩
  · rintro ys ⟨r, rfl, ⟨k, hk⟩, h2, h3⟩
    refine hW.vc [] _ _ ?_
    simp [-List.getD_eq_getElem?_getD, c_isRow, c_bigNumber, c_isRune, c_l02Of]
    refine ⟨fun h4 => ?_, fun h4 => by rw [h3, h4]; rfl⟩
    have h5 : r.length ≠ 0 := fun e => h4 (List.eq_nil_of_length_eq_zero e)
    have h6 : 4 ≤ r.length := by omega
    rw [rowGo_step h6] at h3
    refine ⟨by omega, by omega, fun h7 => ⟨h7, by omega⟩, fun h7 => ?_, fun h7 h8 => ⟨by omega, ⟨⟨k - 1, by omega⟩, by omega, ?_⟩, by omega⟩⟩
    · rw [h3]
      rcases h7 with h7 | h7
      · simp [h7]
      · have : ¬ (r.getD 3 0).toNat ≤ 127 := by omega
        simp only [this, decide_false, Bool.and_false, Bool.false_and]
    · have : (r.getD 3 0).toNat ≤ 127 := by omega
      rw [h3, h7, List.take_of_length_le (by simp)]
      simp only [this, decide_true, Bool.and_true, Bool.true_and]

def c_l11Row : FSpec := ⟨[(.rd, .int .i64), (.rd, .str)], [.bool], true, fun ps => 0 ≤ (nth ps 0).I ∧ (nth ps 0).I ≤ 1000, fun ps => [.bool (rowB (nth ps 1).S (nth ps 0).I)], fun _ => []⟩
theorem k_l11Row : FnOk Tryz.prog 80 c_l11Row := by
  refine fn_mk [0, 1, 4, 5] [.tmp 4] (env_cons (cs := []) k_l04Cell (env_cons (cs := []) k_l02Of (env_nil (tyTab_ok [])))) mixed Tryz.func80 rfl (by decide) rfl (by decide) rfl ?_
  intro ps hT hpre W hW
  simp only [c_l11Row, TyA, Ty, Tys] at hT hpre
  obtain ⟨_, _, rfl, ⟨w, rfl, hw⟩, _, _, rfl, ⟨l, rfl, hl⟩, rfl⟩ := hT
  simp only [nth_zero, nth_succ, pv_S, pv_I] at hpre
  refine hW.vc [(6, [], .take 0 <| .take 1 <| .take 2 <| .take 3 <| .take 4 <| .take 5 <| .take 6 <| .take 8 <| .take 9 <| .take 10 <| .take 11 <| .take 12 <| .take 13 <| .alt 7 (.take 14 <| .alt 15 (.take 16 <| .done) .stop) .stop)] _ _ ?_
  simp [-List.getD_eq_getElem?_getD, c_l11Row, c_l02Of, c_l04Cell]
  intro h1
  rw [wrap64 (by omega)]
  refine ⟨fun h => by simp [rowB, h], fun h => ?_⟩
  refine hW.loopS _ _ _ [.sl 5 .dp (.int .i64)] (fun ys => ∃ x : Nat, ys = [.int .i64 x] ∧ (x : Int) ≤ w ∧ rowB l w = rowGo (l.drop (4 * x))) (fun ys => (w - (nth ys 0).I).toNat) ?_ ?_
  · simp [-List.getD_eq_getElem?_getD, c_l11Row, c_l02Of, c_l04Cell]
    exact ⟨0, rfl, by omega, by simp [rowB, h]⟩
  · rintro ys ⟨x, rfl, h2, h3⟩
    refine hW.vc [(6, [], .take 0 <| .take 1 <| .take 2 <| .take 3 <| .take 4 <| .take 5 <| .take 6 <| .take 8 <| .take 9 <| .take 10 <| .take 11 <| .take 12 <| .take 13 <| .alt 7 (.take 14 <| .alt 15 (.take 16 <| .done) .stop) .stop)] _ _ ?_
    simp [-List.getD_eq_getElem?_getD, c_l11Row, c_l02Of, c_l04Cell]
    refine ⟨fun h4 => ⟨by decide +kernel, ?_⟩, fun h4 => ?_⟩
    · rw [wrap64 (n := 4 * (x : Int)) (by omega), wrap64 (n := 4 * (x : Int) + 3) (by omega), conv_byte, cell_eq]
      have e1 : (4 * (x : Int)).toNat = 4 * x := by omega
      have e2 : (4 * (x : Int) + 3).toNat = 4 * x + 3 := by omega
      have e3 : 4 * x + 3 - 4 * x = 3 := by omega
      rw [e1, e2, e3]
      have h5 : 4 ≤ (l.drop (4 * x)).length := by simp; omega
      rw [rowGo_step h5, row_off, List.drop_drop] at h3
      rw [wrap64 (by omega)]
      refine ⟨⟨by omega, by omega, by omega⟩, ⟨by omega, by omega⟩, by omega, fun h6 => by rw [h3, h6]; rfl, fun h6 => ⟨⟨x + 1, by omega, by omega, ?_⟩, by omega⟩⟩
      rw [h3, h6, Bool.true_and, Nat.mul_add]
    · rw [h3, List.drop_eq_nil_of_le (by omega)]; rfl

end Go.Proofs.YtolgjekokdimoaaGreatDoor
end

section
namespace Go.Proofs.YtolgjekokdimoaaGreatDoor
variable [LaidG]
set_option maxRecDepth 100000
set_option linter.unusedSimpArgs false

def rowsB (es : List PV) (w h : Int) : Bool := decide ((es.length : Int) = h) && es.all fun e => rowB e.S w
/-- The first place from i on. -/
def idxGo (p : PV → Bool) (i : Nat) : List PV → Int
  | [] => -1
  | e :: es => if p e then (i : Int) else idxGo p (i + 1) es
theorem idxGo_any (p : PV → Bool) : ∀ (es : List PV) (i : Nat), decide (0 ≤ idxGo p i es) = es.any p
  | [], i => by simp [idxGo]
  | e :: es, i => by
    simp only [idxGo, List.any_cons]
    by_cases h : p e = true
    · simp [h]
    · simp [h, idxGo_any p es (i + 1)]

def wOk (w : Int) : Prop := 0 ≤ w ∧ w ≤ 1000

def c_areRows1 : FSpec := ⟨[(.rd, .str), (.rd, .box [.int .i64])], [.bool], true, fun ps => wOk (nth (nth ps 1).A 0).I, fun ps => [.bool (!rowB (nth ps 0).S (nth (nth ps 1).A 0).I)], fun _ => []⟩
theorem k_areRows1 : FnOk Tryz.prog 112 c_areRows1 := by
  refine fn_mk [0, 1, 3] [.tmp 3] (env_cons (cs := []) k_isRow (env_nil (tyTab_ok []))) mixed Tryz.func112 rfl (by decide) rfl (by decide) rfl ?_
  intro ps hT hpre W hW
  simp only [c_areRows1, TyA, Ty, Tys] at hT hpre
  obtain ⟨_, _, rfl, ⟨l, rfl, hl⟩, _, _, rfl, ⟨_, rfl, _, _, rfl, ⟨w, rfl, hw⟩, rfl⟩, rfl⟩ := hT
  simp only [nth_zero, nth_succ, pv_S, pv_I, pv_A] at hpre
  refine hW.vc [] _ _ ?_
  simp [-List.getD_eq_getElem?_getD, c_areRows1, c_isRow]
  exact hpre

def c_IndexFunc_areRows1 : FSpec := ⟨[(.rd, .list .str), (.rd, .fn 112 [.box [.int .i64]])], [.int .i64], true, fun ps => wOk (nth (nth (nth ps 1).A 0).A 0).I, fun ps => [.int .i64 (idxGo (fun e => !rowB e.S (nth (nth (nth ps 1).A 0).A 0).I) 0 (nth ps 0).L)], fun _ => []⟩
theorem k_IndexFunc_areRows1 : FnOk Tryz.prog 140 c_IndexFunc_areRows1 := by
  refine fn_mk [0, 1, 4, 5, 7, 8] [.tmp 4] (env_cons (cs := []) k_areRows1 (env_nil (tyTab_ok []))) mixed Tryz.func140 rfl (by decide) rfl (by decide) rfl ?_
  intro ps hT hpre W hW
  simp only [c_IndexFunc_areRows1, TyA, Ty, Tys] at hT hpre
  obtain ⟨_, _, rfl, ⟨es, rfl, he, hes⟩, _, _, rfl, ⟨_, rfl, _, _, rfl, ⟨_, rfl, _, _, rfl, ⟨w, rfl, hw⟩, rfl⟩, rfl⟩, rfl⟩ := hT
  simp only [nth_zero, nth_succ, pv_S, pv_I, pv_A] at hpre
  refine hW.vc [] _ _ ?_
  simp [-List.getD_eq_getElem?_getD, c_IndexFunc_areRows1, c_areRows1]
  intro h1
  refine hW.loopS _ _ _ [.sl 8 .dp (.int .i64)] (fun ys => ∃ i : Nat, ys = [.int .i64 i] ∧ i ≤ es.length ∧ idxGo (fun e => !rowB e.S w) 0 es = idxGo (fun e => !rowB e.S w) i (es.drop i)) (fun ys => es.length - (nth ys 0).I.toNat) ?_ ?_
  · simp [-List.getD_eq_getElem?_getD, c_IndexFunc_areRows1, c_areRows1]
    exact ⟨0, rfl, by simp, by simp⟩
  · rintro ys ⟨i, rfl, h2, h3⟩
    refine hW.vc [] _ _ ?_
    simp [-List.getD_eq_getElem?_getD, c_IndexFunc_areRows1, c_areRows1]
    refine ⟨fun h4 => ⟨h4, fun _ => ⟨hpre, fun h5 => ?_, fun h5 => ?_⟩⟩, fun h4 => ?_⟩
    · rw [h3, drop_nth h4]; simp [idxGo, h5]
    · rw [wrap64 (by omega)]
      refine ⟨⟨i + 1, by omega, by omega, ?_⟩, by omega⟩
      rw [h3, drop_nth h4]; simp [idxGo, h5]
    · rw [h3, List.drop_eq_nil_of_le h4]; rfl

def c_ContainsFunc_areRows1 : FSpec := ⟨[(.rd, .list .str), (.rd, .fn 112 [.box [.int .i64]])], [.bool], true, fun ps => wOk (nth (nth (nth ps 1).A 0).A 0).I, fun ps => [.bool ((nth ps 0).L.any (fun e => !rowB e.S (nth (nth (nth ps 1).A 0).A 0).I))], fun _ => []⟩
theorem k_ContainsFunc_areRows1 : FnOk Tryz.prog 111 c_ContainsFunc_areRows1 := by
  refine fn_mk [0, 1, 4] [.tmp 4] (env_cons (cs := [112]) k_IndexFunc_areRows1 (env_nil (tyTab_ok []))) mixed Tryz.func111 rfl (by decide) rfl (by decide) rfl ?_
  intro ps hT hpre W hW
  simp only [c_ContainsFunc_areRows1, TyA, Ty, Tys] at hT hpre
  obtain ⟨_, _, rfl, ⟨es, rfl, he, hes⟩, _, _, rfl, ⟨_, rfl, _, _, rfl, ⟨_, rfl, _, _, rfl, ⟨w, rfl, hw⟩, rfl⟩, rfl⟩, rfl⟩ := hT
  simp only [nth_zero, nth_succ, pv_S, pv_I, pv_A] at hpre
  refine hW.vc [] _ _ ?_
  simp [-List.getD_eq_getElem?_getD, c_ContainsFunc_areRows1, c_IndexFunc_areRows1]
  exact ⟨hpre, idxGo_any _ _ _⟩

def c_areRows : FSpec := ⟨[(.rd, .list .str), (.rd, .int .i64), (.rd, .int .i64)], [.bool], true, fun ps => wOk (nth ps 1).I, fun ps => [.bool (rowsB (nth ps 0).L (nth ps 1).I (nth ps 2).I)], fun _ => []⟩
theorem k_areRows : FnOk Tryz.prog 66 c_areRows := by
  refine fn_mk [0, 1, 2, 4, 6] [.tmp 6] (env_cons (cs := [112]) k_ContainsFunc_areRows1 (env_nil (tyTab_ok []))) mixed Tryz.func66 rfl (by decide) rfl (by decide) rfl ?_
  intro ps hT hpre W hW
  simp only [c_areRows, TyA, Ty, Tys] at hT hpre
  obtain ⟨_, _, rfl, ⟨es, rfl, he, hes⟩, _, _, rfl, ⟨w, rfl, hw⟩, _, _, rfl, ⟨h, rfl, hh⟩, rfl⟩ := hT
  simp only [nth_zero, nth_succ, pv_S, pv_I, pv_A] at hpre
  refine hW.vc [] _ _ ?_
  simp [-List.getD_eq_getElem?_getD, c_areRows, c_ContainsFunc_areRows1]
  refine fun _ => ⟨fun _ => hpre, ?_⟩
  simp only [rowsB, List.not_any_eq_all_not, Bool.not_not]

theorem rowsB_len {es : List PV} {w h : Int} (hl : (es.length : Int) ≠ h) : rowsB es w h = false := by simp [rowsB, hl]

def c_l11Rows : FSpec := ⟨[(.rd, .int .i64), (.rd, .int .i64), (.rd, .list .str)], [.bool], true, fun ps => wOk (nth ps 0).I, fun ps => [.bool (rowsB (nth ps 2).L (nth ps 0).I (nth ps 1).I)], fun _ => []⟩
theorem k_l11Rows : FnOk Tryz.prog 72 c_l11Rows := by
  refine fn_mk [0, 1, 2, 6, 7] [.tmp 6] (env_cons (cs := []) k_l11Row (env_nil (tyTab_ok []))) mixed Tryz.func72 rfl (by decide) rfl (by decide) rfl ?_
  intro ps hT hpre W hW
  simp only [c_l11Rows, TyA, Ty, Tys] at hT hpre
  obtain ⟨_, _, rfl, ⟨w, rfl, hw⟩, _, _, rfl, ⟨h, rfl, hh⟩, _, _, rfl, ⟨es, rfl, he, hes⟩, rfl⟩ := hT
  simp only [nth_zero, nth_succ, pv_S, pv_I, pv_A] at hpre
  refine hW.vc [] _ _ ?_
  simp [-List.getD_eq_getElem?_getD, c_l11Rows, c_l11Row]
  refine fun h1 => ⟨fun h2 => rowsB_len h2, fun h2 => ?_⟩
  refine hW.loopS _ _ _ [.sl 7 .dp (.int .i64)] (fun ys => ∃ i : Nat, ys = [.int .i64 i] ∧ i ≤ es.length ∧ rowsB es w h = (es.drop i).all fun e => rowB e.S w) (fun ys => es.length - (nth ys 0).I.toNat) ?_ ?_
  · simp [-List.getD_eq_getElem?_getD, c_l11Rows, c_l11Row]
    exact ⟨0, rfl, by simp, by simp [rowsB, h2]⟩
  · rintro ys ⟨i, rfl, h3, h4⟩
    refine hW.vc [] _ _ ?_
    simp [-List.getD_eq_getElem?_getD, c_l11Rows, c_l11Row]
    refine ⟨fun h5 => ⟨by omega, fun _ => ⟨hpre, fun h6 => ?_, fun h6 => ?_⟩⟩, fun h5 => ?_⟩
    · rw [h4, drop_nth (by omega)]; simp [h6]
    · rw [wrap64 (by omega)]
      refine ⟨⟨i + 1, by omega, by omega, ?_⟩, by omega⟩
      rw [h4, drop_nth (by omega)]; simp [h6]
    · rw [h4, List.drop_eq_nil_of_le (by omega)]; rfl

def mirB (m : List PV) : Bool := if (nth m 0).I = -1 then decide ((nth m 1).I = 0) && decide ((nth m 2).I = 0) && decide ((nth m 3).L.length = 0) else inB (nth m 0).I 0 60 && sizeB (nth m 1).I (nth m 2).I && rowsB (nth m 3).L (nth m 1).I (nth m 2).I

theorem size_wOk {w h : Int} (hs : sizeB w h = true) : wOk w := by
  simp [sizeB, inB] at hs; unfold wOk; omega
theorem mir_fin {n w h : Int} {es : List PV} : (n = -1 → (w = 0 → h = 0 → es.length ≤ 140737488355328) → (decide (w = 0) && decide (h = 0) && (es.length : Int) == 0) = mirB [PV.int .i64 n, PV.int .i64 w, PV.int .i64 h, PV.list es]) ∧
    (¬n = -1 → (inB n 0 60 = true → sizeB w h = true → wOk w) ∧ (inB n 0 60 && sizeB w h && rowsB es w h) = mirB [PV.int .i64 n, PV.int .i64 w, PV.int .i64 h, PV.list es]) := by
  refine ⟨fun h1 _ => ?_, fun h1 => ⟨fun _ h2 => size_wOk h2, ?_⟩⟩
  · simp only [mirB, nth_zero, nth_succ, pv_I, pv_L, h1, if_true]
    congr 1
    rw [Bool.eq_iff_iff]; simp
  · simp [mirB, nth_zero, nth_succ, pv_I, pv_L, h1]

def c_isNumber : FSpec := ⟨[(.rd, .int .i64)], [.bool], true, fun _ => True, fun ps => [.bool (inB (nth ps 0).I 0 60)], fun _ => []⟩
theorem k_isNumber : FnOk Tryz.prog 64 c_isNumber := by
  refine fn_mk [0, 2] [.tmp 2] (env_cons (cs := []) k_within (env_nil (tyTab_ok []))) mixed Tryz.func64 rfl (by decide) rfl (by decide) rfl ?_
  intro ps hT hpre W hW
  simp only [c_isNumber, TyA, Ty, Tys] at hT hpre
  obtain ⟨_, _, rfl, ⟨a, rfl, ha⟩, rfl⟩ := hT
  refine hW.vc [] _ _ ?_
  simp [-List.getD_eq_getElem?_getD, c_isNumber, c_within]

def c_isMirror : FSpec := ⟨[(.rd, .agg [.int .i64, .int .i64, .int .i64, .list .str])], [.bool], true, fun _ => True, fun ps => [.bool (mirB (nth ps 0).A)], fun _ => []⟩
theorem k_isMirror : FnOk Tryz.prog 73 c_isMirror := by
  refine fn_mk [0, 1, 2] [.tmp 2] (env_cons (cs := []) k_areRows (env_cons (cs := []) k_isSize (env_cons (cs := []) k_isNumber (env_nil (tyTab_ok []))))) mixed Tryz.func73 rfl (by decide) rfl (by decide) rfl ?_
  intro ps hT hpre W hW
  simp only [c_isMirror, TyA, Ty, Tys] at hT hpre
  obtain ⟨_, _, rfl, ⟨_, rfl, _, _, rfl, ⟨n, rfl, hn⟩, _, _, rfl, ⟨w, rfl, hw⟩, _, _, rfl, ⟨h, rfl, hh⟩, _, _, rfl, ⟨es, rfl, he, hes⟩, rfl⟩, rfl⟩ := hT
  refine hW.vc [] _ _ ?_
  simp [-List.getD_eq_getElem?_getD, c_isMirror, c_isNumber, c_isSize, c_areRows]
  exact mir_fin

def c_MirrorOK : FSpec := c_isMirror
theorem k_MirrorOK : FnOk Tryz.prog 33 c_MirrorOK := by
  refine fn_mk [0, 1, 2] [.tmp 2] (env_cons (cs := []) k_isMirror (env_nil (tyTab_ok []))) mixed Tryz.func33 rfl (by decide) rfl (by decide) rfl ?_
  intro ps hT hpre W hW
  simp only [c_MirrorOK, TyA, Ty, Tys] at hT hpre
  simp only [c_isMirror, TyA, Ty, Tys] at hT
  obtain ⟨_, _, rfl, ⟨_, rfl, _, _, rfl, ⟨n, rfl, hn⟩, _, _, rfl, ⟨w, rfl, hw⟩, _, _, rfl, ⟨h, rfl, hh⟩, _, _, rfl, ⟨es, rfl, he, hes⟩, rfl⟩, rfl⟩ := hT
  refine hW.vc [] _ _ ?_
  simp [-List.getD_eq_getElem?_getD, c_MirrorOK, c_isMirror]

def c_sMirrorOK : FSpec := c_isMirror
theorem k_sMirrorOK : FnOk Tryz.prog 76 c_sMirrorOK := by
  refine fn_mk [0, 1, 2] [.tmp 2] (env_cons (cs := []) k_l11Rows (env_cons (cs := []) k_l04Size (env_cons (cs := []) k_l01In (env_nil (tyTab_ok []))))) mixed Tryz.func76 rfl (by decide) rfl (by decide) rfl ?_
  intro ps hT hpre W hW
  simp only [c_sMirrorOK, TyA, Ty, Tys] at hT hpre
  simp only [c_isMirror, TyA, Ty, Tys] at hT
  obtain ⟨_, _, rfl, ⟨_, rfl, _, _, rfl, ⟨n, rfl, hn⟩, _, _, rfl, ⟨w, rfl, hw⟩, _, _, rfl, ⟨h, rfl, hh⟩, _, _, rfl, ⟨es, rfl, he, hes⟩, rfl⟩, rfl⟩ := hT
  refine hW.vc [] _ _ ?_
  simp [-List.getD_eq_getElem?_getD, c_sMirrorOK, c_l01In, c_l04Size, c_l11Rows, c_isMirror, c_within, c_isSize]
  exact mir_fin

end Go.Proofs.YtolgjekokdimoaaGreatDoor
end

section
namespace Go.Proofs.YtolgjekokdimoaaGreatDoor
variable [LaidG]
set_option maxRecDepth 100000
set_option linter.unusedSimpArgs false

theorem szGo_le : ∀ {es : List PV} {l : Int}, 0 ≤ l → szGo l es ≤ l ∧ (-1 ≤ szGo l es)
  | [], l, h => ⟨Int.le_refl _, by simp [szGo]; omega⟩
  | e :: es, l, h => by
    simp only [szGo]
    split
    · exact ⟨by omega, by omega⟩
    · have := szGo_le (es := es) (l := l - e.S.length) (by omega)
      omega
theorem szStr_le {es : List PV} {l : Int} (h : 0 ≤ l) : szStr es l ≤ l ∧ -1 ≤ szStr es l ∧ (0 ≤ szStr es l → (es.length : Int) ≤ l) := by
  unfold szStr
  split
  · omega
  · have := szGo_le (es := es) (l := l - es.length) (by omega)
    omega

theorem eqL_refl {f : PV → PV → Bool} (hf : ∀ x, f x x = true) : ∀ {es : List PV}, eqL f es es = true
  | [] => rfl
  | e :: es => by simp [eqL, hf, eqL_refl hf (es := es)]

def c_szMirror : FSpec := ⟨[(.rd, .agg [.int .i64, .int .i64, .int .i64, .list .str]), (.rd, .int .i64)], [.int .i64], true, fun ps => 0 ≤ (nth ps 1).I, fun ps => [.int .i64 (szStr (nth (nth ps 0).A 3).L (nth ps 1).I)], fun _ => []⟩
theorem k_szMirror : FnOk Tryz.prog 36 c_szMirror := by
  refine fn_mk [0, 1, 2, 4] [.tmp 4] (env_cons (cs := []) k_szStringS (env_nil (tyTab_ok []))) mixed Tryz.func36 rfl (by decide) rfl (by decide) rfl ?_
  intro ps hT hpre W hW
  simp only [c_szMirror, TyA, Ty, Tys] at hT hpre
  obtain ⟨_, _, rfl, ⟨_, rfl, _, _, rfl, ⟨n, rfl, hn⟩, _, _, rfl, ⟨w, rfl, hw⟩, _, _, rfl, ⟨h, rfl, hh⟩, _, _, rfl, ⟨es, rfl, he, hes⟩, rfl⟩, _, _, rfl, ⟨l, rfl, hl⟩, rfl⟩ := hT
  simp only [nth_zero, nth_succ, pv_I] at hpre
  have h1 := szStr_le (es := es) hpre
  refine hW.vc [] _ _ ?_
  simp [-List.getD_eq_getElem?_getD, c_szMirror, c_szStringS]
  refine ⟨hpre, fun h2 => by omega⟩

def c_toMirror : FSpec := ⟨[(.rd, .agg [.int .i64, .int .i64, .int .i64, .list .str])], [.agg [.int .i64, .int .i64, .int .i64, .list .str]], true, fun ps => (nth (nth ps 0).A 3).L.length ≤ 1048576, fun ps => [nth ps 0], fun _ => []⟩
theorem k_toMirror : FnOk Tryz.prog 42 c_toMirror := by
  refine fn_mk [0, 1, 2, 3] [.cell 2 32] (env_cons (cs := []) k_toStringS (env_nil (tyTab_ok []))) mixed Tryz.func42 rfl (by decide) rfl (by decide) rfl ?_
  intro ps hT hpre W hW
  simp only [c_toMirror, TyA, Ty, Tys] at hT hpre
  obtain ⟨_, _, rfl, ⟨_, rfl, _, _, rfl, ⟨n, rfl, hn⟩, _, _, rfl, ⟨w, rfl, hw⟩, _, _, rfl, ⟨h, rfl, hh⟩, _, _, rfl, ⟨es, rfl, he, hes⟩, rfl⟩, rfl⟩ := hT
  simp only [nth_zero, nth_succ, pv_A, pv_L] at hpre
  refine hW.vc [] _ _ ?_
  simp [-List.getD_eq_getElem?_getD, c_toMirror, c_toStringS]
  exact hpre

def eqMir (a b : List PV) : Bool := (nth a 0).I == (nth b 0).I && (nth a 1).I == (nth b 1).I && (nth a 2).I == (nth b 2).I && eqL (fun x y => x.S == y.S) (nth a 3).L (nth b 3).L
def c_eqMirror : FSpec := ⟨[(.rd, .agg [.int .i64, .int .i64, .int .i64, .list .str]), (.rd, .agg [.int .i64, .int .i64, .int .i64, .list .str])], [.bool], true, fun _ => True, fun ps => [.bool (eqMir (nth ps 0).A (nth ps 1).A)], fun _ => []⟩
theorem k_eqMirror : FnOk Tryz.prog 48 c_eqMirror := by
  refine fn_mk [0, 1, 2, 3, 4] [.tmp 4] (env_cons (cs := []) k_eqStringS (env_nil (tyTab_ok []))) mixed Tryz.func48 rfl (by decide) rfl (by decide) rfl ?_
  intro ps hT hpre W hW
  simp only [c_eqMirror, TyA, Ty, Tys] at hT hpre
  obtain ⟨_, _, rfl, ⟨_, rfl, _, _, rfl, ⟨n, rfl, hn⟩, _, _, rfl, ⟨w, rfl, hw⟩, _, _, rfl, ⟨h, rfl, hh⟩, _, _, rfl, ⟨es, rfl, he, hes⟩, rfl⟩, _, _, rfl, ⟨_, rfl, _, _, rfl, ⟨n', rfl, hn'⟩, _, _, rfl, ⟨w', rfl, hw'⟩, _, _, rfl, ⟨h', rfl, hh'⟩, _, _, rfl, ⟨es', rfl, he', hes'⟩, rfl⟩, rfl⟩ := hT
  refine hW.vc [] _ _ ?_
  simp [-List.getD_eq_getElem?_getD, c_eqMirror, c_eqStringS]
  simp only [eqMir, nth_zero, nth_succ, pv_I, pv_L]
  refine ⟨fun h1 => by simp [h1], fun h1 => ⟨fun h2 => by simp [h2], fun h2 => ⟨fun h3 => by simp [h3], fun h3 => ⟨fun h4 => by simp [h4], fun h4 => by simp [h1, h2, h3, h4]⟩⟩⟩⟩

def c_exMirrorOK : FSpec := ⟨[(.rd, .agg [.int .i64, .int .i64, .int .i64, .list .str])], [.bool], true, fun _ => True, fun _ => [.bool true], fun _ => []⟩
end Go.Proofs.YtolgjekokdimoaaGreatDoor
end

section
namespace Go.Proofs.YtolgjekokdimoaaGreatDoor
variable [LaidG]
set_option maxRecDepth 100000
set_option linter.unusedSimpArgs false

/-- What is left behind some sizes. -/
def szG (f : PV → Int) (l : Int) : List PV → Int
  | [] => l
  | e :: es => if l - f e < 0 then -1 else szG f (l - f e) es
theorem szG_le {f : PV → Int} (hf : ∀ e, 0 ≤ f e) : ∀ {es : List PV} {l : Int}, 0 ≤ l → szG f l es ≤ l ∧ -1 ≤ szG f l es
  | [], l, h => ⟨Int.le_refl _, by simp [szG]; omega⟩
  | e :: es, l, h => by
    have := hf e
    simp only [szG]
    split
    · exact ⟨by omega, by omega⟩
    · have := szG_le hf (es := es) (l := l - f e) (by omega)
      omega
def szGs (f : PV → Int) (es : List PV) (l : Int) : Int := if l - es.length < 0 then -1 else szG f (l - es.length) es
theorem szGs_le {f : PV → Int} (hf : ∀ e, 0 ≤ f e) {es : List PV} {l : Int} (h : 0 ≤ l) : szGs f es l ≤ l ∧ -1 ≤ szGs f es l ∧ (0 ≤ szGs f es l → (es.length : Int) ≤ l) := by
  unfold szGs
  split
  · omega
  · have := szG_le hf (es := es) (l := l - es.length) (by omega)
    omega

def szR1 (l n : Int) : Int := if l - n < 0 then -1 else l - n
def rowLen (e : PV) : Int := (nth e.A 1).S.length
theorem rowLen_nn (e : PV) : 0 ≤ rowLen e := by unfold rowLen; omega

def c_szRow : FSpec := ⟨[(.rd, .agg [.int .i64, .str]), (.rd, .int .i64)], [.int .i64], true, fun ps => 0 ≤ (nth ps 1).I, fun ps => [.int .i64 (szR1 (nth ps 1).I (nth (nth ps 0).A 1).S.length)], fun _ => []⟩
theorem k_szRow : FnOk Tryz.prog 79 c_szRow := by
  refine fn_mk [0, 1, 2, 4] [.tmp 4] (env_nil (tyTab_ok [])) mixed Tryz.func79 rfl (by decide) rfl (by decide) rfl ?_
  intro ps hT hpre W hW
  simp only [c_szRow, TyA, Ty, Tys] at hT hpre
  obtain ⟨_, _, rfl, ⟨_, rfl, _, _, rfl, ⟨y, rfl, hy⟩, _, _, rfl, ⟨c, rfl, hc⟩, rfl⟩, _, _, rfl, ⟨l, rfl, hl⟩, rfl⟩ := hT
  simp only [nth_zero, nth_succ, pv_I] at hpre
  refine hW.vc [] _ _ ?_
  simp [-List.getD_eq_getElem?_getD, c_szRow]
  intro h1
  rw [inR64] at hl
  rw [wrap64 (by omega)]
  exact ⟨fun h => by rw [szR1, if_pos h], fun h => by rw [szR1, if_neg (Int.not_lt.2 h)]⟩

def c_szRowS : FSpec := ⟨[(.rd, .list (.agg [.int .i64, .str])), (.rd, .int .i64)], [.int .i64], true, fun ps => 0 ≤ (nth ps 1).I, fun ps => [.int .i64 (szGs rowLen (nth ps 0).L (nth ps 1).I)], fun _ => []⟩
theorem k_szRowS : FnOk Tryz.prog 37 c_szRowS := by
  refine fn_mk [0, 1, 4, 5] [.tmp 4] (env_cons (cs := []) k_szRow (env_nil (tyTab_ok []))) mixed Tryz.func37 rfl (by decide) rfl (by decide) rfl ?_
  intro ps hT hpre W hW
  simp only [c_szRowS, TyA, Ty, Tys] at hT hpre
  obtain ⟨_, _, rfl, ⟨es, rfl, hes, tes⟩, _, _, rfl, ⟨l, rfl, hl⟩, rfl⟩ := hT
  simp only [nth_zero, nth_succ, pv_I] at hpre
  refine hW.vc [] _ _ ?_
  simp [-List.getD_eq_getElem?_getD, c_szRowS, c_szRow]
  intro h1
  rw [inR64] at hl
  rw [wrap64 (by omega)]
  refine ⟨fun h => by simp [szGs, h], fun h => ?_⟩
  refine hW.loopS _ _ _ [.sl 1 .dp (.int .i64), .sl 5 .dp (.int .i64)] (fun ys => ∃ (x : Int) (i : Nat), ys = [.int .i64 x, .int .i64 i] ∧ 0 ≤ x ∧ x ≤ l ∧ i ≤ es.length ∧ szGs rowLen es l = szG rowLen x (es.drop i)) (fun ys => es.length - (nth ys 1).I.toNat) ?_ ?_
  · simp [-List.getD_eq_getElem?_getD, c_szRowS, c_szRow]
    exact ⟨_, 0, ⟨rfl, rfl⟩, h, by omega, by simp, by simp [szGs, Int.not_lt.2 h]⟩
  · rintro ys ⟨x, i, rfl, h2, h3, h4, h5⟩
    refine hW.vc [] _ _ ?_
    simp [-List.getD_eq_getElem?_getD, c_szRowS, c_szRow]
    refine fun _ => ⟨fun h6 => ⟨h6, fun _ _ _ => ⟨h2, ?_⟩⟩, fun h6 => by rw [h5, List.drop_eq_nil_of_le h6]; rfl⟩
    have h7 : rowLen (nth es i) = (nth (nth es i).A 1).S.length := rfl
    rw [drop_nth h6, szG, h7] at h5
    by_cases h8 : x - ((nth (nth es i).A 1).S.length : Int) < 0
    · rw [if_pos h8] at h5
      rw [szR1, if_pos h8]
      exact ⟨fun _ => h5.symm, fun h => by omega⟩
    · rw [if_neg h8] at h5
      rw [szR1, if_neg h8]
      rw [wrap64 (by omega)]
      exact ⟨fun h => absurd h h8, fun _ => ⟨⟨_, i + 1, ⟨rfl, by omega⟩, by omega, by omega, by omega, h5⟩, by omega⟩⟩

def c_szView : FSpec := ⟨[(.rd, .agg [.int .i64, .int .i64, .bool, .int .i64, .int .i64, .list (.agg [.int .i64, .str])]), (.rd, .int .i64)], [.int .i64], true, fun ps => 0 ≤ (nth ps 1).I, fun ps => [.int .i64 (szGs rowLen (nth (nth ps 0).A 5).L (nth ps 1).I)], fun _ => []⟩
theorem k_szView : FnOk Tryz.prog 8 c_szView := by
  refine fn_mk [0, 1, 2, 4] [.tmp 4] (env_cons (cs := []) k_szRowS (env_nil (tyTab_ok []))) mixed Tryz.func8 rfl (by decide) rfl (by decide) rfl ?_
  intro ps hT hpre W hW
  simp only [c_szView, TyA, Ty, Tys] at hT hpre
  obtain ⟨_, _, rfl, ⟨_, rfl, _, _, rfl, ⟨n, rfl, hn⟩, _, _, rfl, ⟨f, rfl, hf⟩, _, _, rfl, ⟨u, rfl⟩, _, _, rfl, ⟨w, rfl, hw⟩, _, _, rfl, ⟨h, rfl, hh⟩, _, _, rfl, ⟨es, rfl, hes, tes⟩, rfl⟩, _, _, rfl, ⟨l, rfl, hl⟩, rfl⟩ := hT
  simp only [nth_zero, nth_succ, pv_I] at hpre
  have h1 := szGs_le rowLen_nn (es := es) hpre
  refine hW.vc [] _ _ ?_
  simp [-List.getD_eq_getElem?_getD, c_szView, c_szRowS]
  refine ⟨hpre, fun h2 => by omega⟩

def c_toRow : FSpec := ⟨[(.rd, .agg [.int .i64, .str])], [.agg [.int .i64, .str]], true, fun _ => True, fun ps => [nth ps 0], fun _ => []⟩
theorem k_toRow : FnOk Tryz.prog 84 c_toRow := by
  refine fn_mk [0, 1, 2, 3] [.cell 2 94] (env_nil (tyTab_ok [])) mixed Tryz.func84 rfl (by decide) rfl (by decide) rfl ?_
  intro ps hT hpre W hW
  simp only [c_toRow, TyA, Ty, Tys] at hT hpre
  obtain ⟨_, _, rfl, ⟨_, rfl, _, _, rfl, ⟨y, rfl, hy⟩, _, _, rfl, ⟨c, rfl, hc⟩, rfl⟩, rfl⟩ := hT
  refine hW.vc [] _ _ ?_
  simp [-List.getD_eq_getElem?_getD, c_toRow]

theorem row_eta {e : PV} (h : ∃ qs, e = .agg qs ∧ ∃ p r, qs = p :: r ∧ (∃ n, p = .int .i64 n ∧ inR .i64 n) ∧ ∃ p r', r = p :: r' ∧ (∃ l, p = .str l ∧ l.length ≤ LIM) ∧ r' = []) : PV.agg [.int .i64 (nth e.A 0).I, .str (nth e.A 1).S] = e := by
  obtain ⟨_, rfl, _, _, rfl, ⟨n, rfl, _⟩, _, _, rfl, ⟨l, rfl, _⟩, rfl⟩ := h
  rfl

def c_toRowS : FSpec := ⟨[(.rd, .list (.agg [.int .i64, .str]))], [.list (.agg [.int .i64, .str])], true, fun ps => (nth ps 0).L.length ≤ 1048576, fun ps => [.list (nth ps 0).L], fun _ => []⟩
theorem k_toRowS : FnOk Tryz.prog 43 c_toRowS := by
  refine fn_mk [0, 2, 3, 4] [.tmp 2] (env_cons (cs := []) k_toRow (env_nil (tyTab_ok []))) mixed Tryz.func43 rfl (by decide) rfl (by decide) rfl ?_
  intro ps hT hpre W hW
  simp only [c_toRowS, TyA, Ty, Tys] at hT hpre
  obtain ⟨_, _, rfl, ⟨es, rfl, hes, tes⟩, rfl⟩ := hT
  simp only [nth_zero, pv_L] at hpre
  refine hW.vc [] _ _ ?_
  simp [-List.getD_eq_getElem?_getD, c_toRowS, c_toRow]
  refine fun h1 => ⟨by omega, hW.loopS _ _ _ [.sl 3 .dp (.list (.agg [.int .i64, .str])), .sl 4 .dp (.int .i64)] (fun ys => ∃ (out : List PV) (i : Nat), ys = [.list out, .int .i64 i] ∧ i ≤ es.length ∧ out.length = es.length ∧ out.take i = es.take i) (fun ys => es.length - (nth ys 1).I.toNat) ?_ ?_⟩
  · simp [-List.getD_eq_getElem?_getD, c_toRowS, c_toRow]
    exact ⟨_, 0, ⟨rfl, rfl⟩, by simp, by simp, by simp⟩
  · rintro ys ⟨out, i, rfl, h2, h3, h4⟩
    refine hW.vc [] _ _ ?_
    simp [-List.getD_eq_getElem?_getD, c_toRowS, c_toRow]
    refine fun _ => ⟨fun h5 => ⟨h5, fun _ _ _ => ⟨by omega, ?_⟩⟩, fun h5 => ?_⟩
    · rw [row_eta (tes _ (nth_mem h5)), wrap64 (by omega)]
      refine ⟨⟨_, i + 1, ⟨rfl, by omega⟩, by omega, by simp [h3], set_take h4 h3 h5 rfl⟩, by omega⟩
    · rw [List.take_of_length_le (by omega), List.take_of_length_le (by omega)] at h4
      exact h4

def c_toView : FSpec := ⟨[(.rd, .agg [.int .i64, .int .i64, .bool, .int .i64, .int .i64, .list (.agg [.int .i64, .str])])], [.agg [.int .i64, .int .i64, .bool, .int .i64, .int .i64, .list (.agg [.int .i64, .str])]], true, fun ps => (nth (nth ps 0).A 5).L.length ≤ 1048576, fun ps => [nth ps 0], fun _ => []⟩
theorem k_toView : FnOk Tryz.prog 11 c_toView := by
  refine fn_mk [0, 1, 2, 3] [.cell 2 40] (env_cons (cs := []) k_toRowS (env_nil (tyTab_ok []))) mixed Tryz.func11 rfl (by decide) rfl (by decide) rfl ?_
  intro ps hT hpre W hW
  simp only [c_toView, TyA, Ty, Tys] at hT hpre
  obtain ⟨_, _, rfl, ⟨_, rfl, _, _, rfl, ⟨n, rfl, hn⟩, _, _, rfl, ⟨f, rfl, hf⟩, _, _, rfl, ⟨u, rfl⟩, _, _, rfl, ⟨w, rfl, hw⟩, _, _, rfl, ⟨h, rfl, hh⟩, _, _, rfl, ⟨es, rfl, hes, tes⟩, rfl⟩, rfl⟩ := hT
  simp only [nth_zero, nth_succ, pv_A, pv_L] at hpre
  refine hW.vc [] _ _ ?_
  simp [-List.getD_eq_getElem?_getD, c_toView, c_toRowS]
  exact hpre

def eqRow1 (a b : List PV) : Bool := (nth a 0).I == (nth b 0).I && (nth a 1).S == (nth b 1).S
def eqRow2 (a b : PV) : Bool := eqRow1 a.A b.A
theorem eqRow2_refl (a : PV) : eqRow2 a a = true := by simp [eqRow2, eqRow1]
def c_eqRow : FSpec := ⟨[(.rd, .agg [.int .i64, .str]), (.rd, .agg [.int .i64, .str])], [.bool], true, fun _ => True, fun ps => [.bool (eqRow1 (nth ps 0).A (nth ps 1).A)], fun _ => []⟩
theorem k_eqRow : FnOk Tryz.prog 90 c_eqRow := by
  refine fn_mk [0, 1, 2, 3, 4] [.tmp 4] (env_nil (tyTab_ok [])) mixed Tryz.func90 rfl (by decide) rfl (by decide) rfl ?_
  intro ps hT hpre W hW
  simp only [c_eqRow, TyA, Ty, Tys] at hT hpre
  obtain ⟨_, _, rfl, ⟨_, rfl, _, _, rfl, ⟨y, rfl, hy⟩, _, _, rfl, ⟨c, rfl, hc⟩, rfl⟩, _, _, rfl, ⟨_, rfl, _, _, rfl, ⟨y', rfl, hy'⟩, _, _, rfl, ⟨c', rfl, hc'⟩, rfl⟩, rfl⟩ := hT
  refine hW.vc [] _ _ ?_
  simp [-List.getD_eq_getElem?_getD, c_eqRow]
  simp only [eqRow1, nth_zero, nth_succ, pv_I, pv_S]
  refine ⟨fun h1 => by simp [h1], fun h1 => ⟨fun h2 => by simp [h2], fun h2 => by simp [h1, h2]⟩⟩

def c_eqRowS : FSpec := ⟨[(.rd, .list (.agg [.int .i64, .str])), (.rd, .list (.agg [.int .i64, .str]))], [.bool], true, fun _ => True, fun ps => [.bool (eqL eqRow2 (nth ps 0).L (nth ps 1).L)], fun _ => []⟩
theorem k_eqRowS : FnOk Tryz.prog 49 c_eqRowS := by
  refine fn_mk [0, 1, 4, 5] [.tmp 4] (env_cons (cs := []) k_eqRow (env_nil (tyTab_ok []))) mixed Tryz.func49 rfl (by decide) rfl (by decide) rfl ?_
  intro ps hT hpre W hW
  simp only [c_eqRowS, TyA, Ty, Tys] at hT hpre
  obtain ⟨_, _, rfl, ⟨es, rfl, hes, tes⟩, _, _, rfl, ⟨es2, rfl, hes2, tes2⟩, rfl⟩ := hT
  refine hW.vc [(6, [], .take 0 <| .take 1 <| .take 2 <| .take 3 <| .take 4 <| .take 5 <| .take 6 <| .take 7 <| .alt 8 (.take 9 <| .done) .stop)] _ _ ?_
  simp [-List.getD_eq_getElem?_getD, c_eqRowS, c_eqRow]
  refine fun h1 h2 => ⟨fun h3 => eqL_len (by omega), fun h3 => ?_⟩
  refine hW.loopS _ _ _ [.sl 5 .dp (.int .i64)] (fun ys => ∃ i : Nat, ys = [.int .i64 i] ∧ i ≤ es.length ∧ eqL eqRow2 es es2 = eqL eqRow2 (es.drop i) (es2.drop i)) (fun ys => es.length - (nth ys 0).I.toNat) ?_ ?_
  · simp [-List.getD_eq_getElem?_getD, c_eqRowS, c_eqRow]
    exact ⟨0, rfl, by simp, by simp⟩
  · rintro ys ⟨i, rfl, h4, h5⟩
    refine hW.vc [(6, [], .take 0 <| .take 1 <| .take 2 <| .take 3 <| .take 4 <| .take 5 <| .take 6 <| .take 7 <| .alt 8 (.take 9 <| .done) .stop)] _ _ ?_
    simp [-List.getD_eq_getElem?_getD, c_eqRowS, c_eqRow]
    refine fun _ => ⟨fun h6 => ⟨by decide +kernel, h6, fun _ _ _ => ⟨by omega, fun _ _ _ => ?_⟩⟩, fun h6 => ?_⟩
    · rw [drop_nth h6, drop_nth (by omega : i < es2.length), eqL] at h5
      have h8 : eqRow1 [PV.int IntKind.i64 (nth (nth es i).A 0).I, PV.str (nth (nth es i).A 1).S] [PV.int IntKind.i64 (nth (nth es2 i).A 0).I, PV.str (nth (nth es2 i).A 1).S] = eqRow2 (nth es i) (nth es2 i) := rfl
      rw [wrap64 (by omega), h8]
      refine ⟨fun h7 => by rw [h5]; simp [h7], fun h7 => ⟨⟨i + 1, by omega, by omega, by rw [h5]; simp [h7]⟩, by omega⟩⟩
    · rw [h5, List.drop_eq_nil_of_le h6, List.drop_eq_nil_of_le (by omega)]; rfl

def eqVw (a b : List PV) : Bool := (nth a 0).I == (nth b 0).I && (nth a 1).I == (nth b 1).I && (nth a 2).B == (nth b 2).B && (nth a 3).I == (nth b 3).I && (nth a 4).I == (nth b 4).I && eqL eqRow2 (nth a 5).L (nth b 5).L
def c_eqView : FSpec := ⟨[(.rd, .agg [.int .i64, .int .i64, .bool, .int .i64, .int .i64, .list (.agg [.int .i64, .str])]), (.rd, .agg [.int .i64, .int .i64, .bool, .int .i64, .int .i64, .list (.agg [.int .i64, .str])])], [.bool], true, fun _ => True, fun ps => [.bool (eqVw (nth ps 0).A (nth ps 1).A)], fun _ => []⟩
theorem k_eqView : FnOk Tryz.prog 14 c_eqView := by
  refine fn_mk [0, 1, 2, 3, 4] [.tmp 4] (env_cons (cs := []) k_eqRowS (env_nil (tyTab_ok []))) mixed Tryz.func14 rfl (by decide) rfl (by decide) rfl ?_
  intro ps hT hpre W hW
  simp only [c_eqView, TyA, Ty, Tys] at hT hpre
  obtain ⟨_, _, rfl, ⟨_, rfl, _, _, rfl, ⟨n, rfl, hn⟩, _, _, rfl, ⟨f, rfl, hf⟩, _, _, rfl, ⟨u, rfl⟩, _, _, rfl, ⟨w, rfl, hw⟩, _, _, rfl, ⟨h, rfl, hh⟩, _, _, rfl, ⟨es, rfl, hes, tes⟩, rfl⟩, _, _, rfl, ⟨_, rfl, _, _, rfl, ⟨n', rfl, hn'⟩, _, _, rfl, ⟨f', rfl, hf'⟩, _, _, rfl, ⟨u', rfl⟩, _, _, rfl, ⟨w', rfl, hw'⟩, _, _, rfl, ⟨h', rfl, hh'⟩, _, _, rfl, ⟨es', rfl, hes', tes'⟩, rfl⟩, rfl⟩ := hT
  refine hW.vc [] _ _ ?_
  simp [-List.getD_eq_getElem?_getD, c_eqView, c_eqRowS]
  simp only [eqVw, nth_zero, nth_succ, pv_I, pv_B, pv_L]
  exact ⟨fun q1 => by simp [q1], fun q1 => ⟨fun q2 => by simp [q2], fun q2 => ⟨fun q3 => by simp [q3], fun q3 => ⟨fun q4 => by simp [q4], fun q4 => ⟨fun q5 => by simp [q5], fun q5 => ⟨fun q6 => by simp [q6], fun q6 => by simp [q1, q2, q3, q4, q5, q6]⟩⟩⟩⟩⟩⟩

/-- Rows that rise, each of all its cells. -/
def upB (w h : Int) (p : Int) : List PV → Bool
  | [] => true
  | e :: es => inB (nth e.A 0).I 0 (h - 1) && decide (p < (nth e.A 0).I) && rowB (nth e.A 1).S w && upB w h (nth e.A 0).I es
def leB (a b : Int) : Bool := decide (a ≤ b)
def selB (c a b : Bool) : Bool := (c && a) || (!c && b)
def viewB (v : List PV) : Bool :=
  inB (nth v 0).I 0 60 && sizeB (nth v 3).I (nth v 4).I && leB (nth v 5).L.length (nth v 4).I && upB (nth v 3).I (nth v 4).I (-1) (nth v 5).L &&
    selB (nth v 2).B ((nth v 1).I == 0 && ((nth v 5).L.length : Int) == (nth v 4).I) (inB (nth v 1).I 0 ((nth v 0).I - 1))
/-- The row ahead of place i. -/
def pvY (es : List PV) (i : Nat) : Int := if i = 0 then -1 else (nth (nth es (i - 1)).A 0).I

theorem view_no {n f w h : Int} {u : Bool} {es : List PV} (h2 : (inB n 0 60 = false ∨ sizeB w h = false) ∨ h < es.length) : viewB [.int .i64 n, .int .i64 f, .bool u, .int .i64 w, .int .i64 h, .list es] = false := by
  simp only [viewB, nth_zero, nth_succ, pv_I, pv_L]
  rcases h2 with (h2 | h2) | h2
  · simp [h2]
  · simp [h2]
  · have : ¬ (es.length : Int) ≤ h := by omega
    simp [this, leB]
theorem view_eq {n f w h : Int} {u : Bool} {es : List PV} (h2 : inB n 0 60 = true) (h3 : sizeB w h = true) (h4 : (es.length : Int) ≤ h) : (2 ≤ w ∧ w ≤ 24 ∧ 2 ≤ h ∧ h ≤ 10) ∧
    viewB [.int .i64 n, .int .i64 f, .bool u, .int .i64 w, .int .i64 h, .list es] = (upB w h (-1) es && selB u (f == 0 && (es.length : Int) == h) (inB f 0 (n - 1))) := by
  refine ⟨by simp [sizeB, inB] at h3; omega, ?_⟩
  simp [viewB, nth_zero, nth_succ, pv_I, pv_L, pv_B, h2, h3, h4, leB]
theorem pvY_succ (es : List PV) (i : Nat) : pvY es (i + 1) = (nth (nth es i).A 0).I := by simp [pvY]
theorem pvY_pos {es : List PV} {i : Nat} (h : 0 < i) : pvY es i = (nth (nth es (i - 1)).A 0).I := by rw [pvY, if_neg (by omega)]
theorem pvY_lt {es : List PV} {i : Nat} {y h : Int} (h1 : inB y 0 h = true) (h2 : 0 < i → (nth (nth es (i - 1)).A 0).I < y) : pvY es i < y := by
  by_cases h0 : 0 < i
  · rw [pvY_pos h0]; exact h2 h0
  · have : pvY es i = -1 := by rw [pvY, if_pos (by omega)]
    rw [this]
    simp [inB] at h1; omega

def c_isView : FSpec := ⟨[(.rd, .agg [.int .i64, .int .i64, .bool, .int .i64, .int .i64, .list (.agg [.int .i64, .str])])], [.bool], true, fun _ => True, fun ps => [.bool (viewB (nth ps 0).A)], fun _ => []⟩
theorem k_isView : FnOk Tryz.prog 46 c_isView := by
  refine fn_mk [0, 1, 2, 3, 4, 26, 27, 28] [.tmp 2] (env_cons (cs := []) k_isRow (env_cons (cs := []) k_within (env_cons (cs := []) k_isSize (env_cons (cs := []) k_isNumber (env_nil (tyTab_ok [])))))) mixed Tryz.func46 rfl (by decide) rfl (by decide) rfl ?_
  intro ps hT hpre W hW
  simp only [c_isView, TyA, Ty, Tys] at hT hpre
  obtain ⟨_, _, rfl, ⟨_, rfl, _, _, rfl, ⟨n, rfl, hn⟩, _, _, rfl, ⟨f, rfl, hf⟩, _, _, rfl, ⟨u, rfl⟩, _, _, rfl, ⟨w, rfl, hw⟩, _, _, rfl, ⟨h, rfl, hh⟩, _, _, rfl, ⟨es, rfl, hes, tes⟩, rfl⟩, rfl⟩ := hT
  refine hW.vc [(6, [], .take 0 <| .take 1 <| .take 2 <| .take 3 <| .take 4 <| .alt 5 (.take 6 <| .take 7 <| .take 8 <| .take 9 <| .take 10 <| .take 11 <| .take 12 <| .take 13 <| .take 14 <| .take 15 <| .take 16 <| .take 17 <| .take 18 <| .take 19 <| .take 20 <| .take 21 <| .take 22 <| .take 23 <| .take 24 <| .take 25 <| .take 26 <| .take 27 <| .alt 28 (.take 29 <| .take 30 <| .done) .stop) .stop)] _ _ ?_
  simp [-List.getD_eq_getElem?_getD, c_isView, c_isNumber, c_isSize, c_within, c_isRow]
  intro h1
  refine ⟨view_no, fun h2 h3 h4 h5 => ?_⟩
  obtain ⟨h6, h7⟩ := view_eq (u := u) (f := f) h2 h3 h4
  refine hW.loopS _ _ _ [.sl 28 .dp (.int .i64)] (fun ys => ∃ i : Nat, ys = [.int .i64 i] ∧ i ≤ es.length ∧ upB w h (-1) es = upB w h (pvY es i) (es.drop i)) (fun ys => es.length - (nth ys 0).I.toNat) ?_ ?_
  · simp [-List.getD_eq_getElem?_getD, c_isView, c_isNumber, c_isSize, c_within, c_isRow]
    exact ⟨0, rfl, by simp, by simp [pvY]⟩
  · rintro ys ⟨i, rfl, g1, g2⟩
    refine hW.vc [(6, [], .take 0 <| .take 1 <| .take 2 <| .take 3 <| .take 4 <| .alt 5 (.take 6 <| .take 7 <| .take 8 <| .take 9 <| .take 10 <| .take 11 <| .take 12 <| .take 13 <| .take 14 <| .take 15 <| .take 16 <| .take 17 <| .take 18 <| .take 19 <| .take 20 <| .take 21 <| .take 22 <| .take 23 <| .take 24 <| .take 25 <| .take 26 <| .take 27 <| .alt 28 (.take 29 <| .take 30 <| .done) .stop) .stop)] _ _ ?_
    simp [-List.getD_eq_getElem?_getD, c_isView, c_isNumber, c_isSize, c_within, c_isRow]
    have k1 : IntKind.i64.wrap (h - 1) = h - 1 := wrap64 (by omega)
    simp only [k1]
    have k2 : 0 < i → (IntKind.i64.wrap ((i : Int) - 1)).toNat = i - 1 := fun h => by rw [wrap64 (by omega)]; omega
    have k3 : 0 < i → IntKind.i64.wrap ((i : Int) - 1) = i - 1 := fun h => wrap64 (by omega)
    refine ⟨fun g3 => ⟨g3, fun _ _ _ => ⟨by decide +kernel, fun g4 g5 => ⟨⟨g4, g5⟩, by rw [k3 g5]; omega⟩, fun g4 g5 => ⟨⟨g4, g5⟩, by rw [k2 g5]; omega⟩, fun _ => ⟨fun g4 => ⟨g4, fun g5 => ⟨g4, g5⟩⟩, fun _ _ => by omega, ?_⟩⟩⟩, ?_⟩
    · rw [drop_nth g3, upB] at g2
      have k4 : 0 < i → pvY es i = (nth (nth es (i - 1)).A 0).I := fun h => by rw [pvY, if_neg (by omega)]
      refine ⟨fun g4 => ?_, fun g4 g5 g6 => ?_⟩
      · rw [h7, g2]
        rcases g4 with (g4 | ⟨g4, g5⟩) | g4
        · simp [g4]
        · rw [k2 g4] at g5
          have : ¬ pvY es i < (nth (nth es i).A 0).I := by rw [k4 g4]; omega
          simp [this]
        · simp [g4]
      · rw [wrap64 (by omega)]
        have k5 : pvY es i < (nth (nth es i).A 0).I := by
          by_cases h0 : 0 < i
          · have := g5 h0
            rw [k2 h0] at this
            rw [k4 h0]; exact this
          · have : pvY es i = -1 := by rw [pvY, if_pos (by omega)]
            rw [this]
            simp [inB] at g4; omega
        refine ⟨⟨i + 1, by omega, by omega, ?_⟩, by omega⟩
        have k6 : pvY es (i + 1) = (nth (nth es i).A 0).I := by simp [pvY]
        rw [g2, g4, g6, k6]
        simp [k5]
    · intro g3
      rw [List.drop_eq_nil_of_le g3, upB] at g2
      have k5 : IntKind.i64.wrap (n - 1) = n - 1 := wrap64 (by simp [inB] at h2; omega)
      rw [h7, g2, k5]
      refine ⟨fun g4 _ => ?_, fun g4 => ?_⟩
      · subst g4
        rw [Bool.eq_iff_iff]; simp [selB]
      · subst g4
        simp [selB]

def c_iViewOK : FSpec := c_isView
theorem k_iViewOK : FnOk Tryz.prog 30 c_iViewOK := by
  refine fn_mk [0, 1, 2] [.tmp 2] (env_cons (cs := []) k_isView (env_nil (tyTab_ok []))) mixed Tryz.func30 rfl (by decide) rfl (by decide) rfl ?_
  intro ps hT hpre W hW
  simp only [c_iViewOK, TyA, Ty, Tys] at hT hpre
  simp only [c_isView, TyA, Ty, Tys] at hT
  obtain ⟨_, _, rfl, ⟨_, rfl, _, _, rfl, ⟨n, rfl, hn⟩, _, _, rfl, ⟨f, rfl, hf⟩, _, _, rfl, ⟨u, rfl⟩, _, _, rfl, ⟨w, rfl, hw⟩, _, _, rfl, ⟨h, rfl, hh⟩, _, _, rfl, ⟨es, rfl, hes, tes⟩, rfl⟩, rfl⟩ := hT
  refine hW.vc [] _ _ ?_
  simp [-List.getD_eq_getElem?_getD, c_iViewOK, c_isView]

end Go.Proofs.YtolgjekokdimoaaGreatDoor
end

