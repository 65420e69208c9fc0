/-
  Part 9 of the proof of FnExactClientAccept: a verification-condition generator over the program and the contracts of its functions, in the order of their use.
  Conditions: none.
-/
import Derived.Test.YtolgjekokdimoaaGreatDoorM8
import Derived.Handed
import Derived.Shelf.Vars
set_option linter.unusedVariables false
set_option linter.unusedSimpArgs false
set_option linter.unusedSectionVars false

section
namespace Go.Proofs.YtolgjekokdimoaaGreatDoor
variable [LaidG]
open Go.ChangeShapes Go.WideShapes Go.ChangeAt Go.RowKit
set_option linter.unusedVariables false
set_option maxRecDepth 100000
section
variable {H : Type} {enc : TypeId × Value → H} {P : Program} {W W' : World}

theorem iface_of {w : World} {sp : Nat → Bool} {fuel t : Nat} {cs : List Value} {ms : Array (String × TypeId)} {s : String} {d : DataW Unit} {p : List MemPlace} (ht : P.underlying t = some (.interface ms))
    (h : DataW.trod (fun _ => ()) P w 0 sp false fuel t cs = some (.iface s d, p)) : ∃ u v, cs = [.iface u v] := by
  cases fuel with
  | zero => simp [DataW.trod] at h
  | succ fuel =>
    match cs with
    | [] => simp [DataW.trod, ht] at h
    | [a] => cases a <;> first | exact ⟨_, _, rfl⟩ | (simp [DataW.trod, ht] at h)
    | a :: b :: r => simp [DataW.trod, ht] at h
theorem laid_ifc {name s : String} {d : DataW Unit} {g t : Nat} {ms : Array (String × TypeId)} (hg : P.globalNamed name = some g) (hty : (P.globals[g]?).map (·.type) = some t) (ht : P.underlying t = some (.interface ms)) :
    ∀ {laid : List (String × DataW Unit)} {ps : List MemPlace}, DataW.LaidVars P W laid ps → (name, .iface s d) ∈ laid →
      ∃ u v, W.var? P name = some #[.iface u v] ∧ ∀ x ∈ MemPlace.row ⟨g, 0, none⟩ 1, x ∈ ps
  | [], ps, h, hm => by simp at hm
  | (m, d') :: r, ps, h, hm => by
    obtain ⟨g', t', cs, fuel, p, q, hg', ht', hvar, hd, hr, rfl⟩ := h
    rcases List.mem_cons.1 hm with hm | hm
    · obtain ⟨rfl, rfl⟩ := Prod.mk.inj hm
      obtain rfl := Option.some.inj (hg.symm.trans hg')
      obtain rfl := Option.some.inj (hty.symm.trans ht')
      obtain ⟨u, v, e⟩ := iface_of ht hd
      have e' : cs = #[.iface u v] := by apply Array.toList_inj.1; rw [e]
      subst e'
      exact ⟨u, v, hvar, fun x hx => by simp at hx ⊢; simp [hx]⟩
    · obtain ⟨u, v, q1, q2⟩ := laid_ifc hg hty ht hr hm
      exact ⟨u, v, q1, fun x hx => by simp [q2 x hx]⟩
theorem gl_ifc {name : String} {dat : DataW Unit} {g t : Nat} {ms : Array (String × TypeId)} {laid : List (String × DataW Unit)} (h : laidMet P laid W) (hdat : ∃ s d, dat = .iface s d) (hm : (name, dat) ∈ laid) (hg : P.globalNamed name = some g) (hty : (P.globals[g]?).map (·.type) = some t) (ht : P.underlying t = some (.interface ms)) :
    g ∉ ([] : List Nat) ∧ ∃ v t, W.heap[g]? = some (.cells #[v] t (0, 0)) ∧ GlV true v := by
  obtain ⟨s, d, rfl⟩ := hdat
  obtain ⟨ps, hL, _, hz⟩ := h
  obtain ⟨u, v, q1, q2⟩ := laid_ifc hg hty ht hL hm
  obtain ⟨⟨c, t', hc⟩, _⟩ := hz g 0 (q2 _ (by simp [MemPlace.row]))
  have e : c = #[.iface u v] := by
    unfold World.var? at q1
    rw [hg] at q1
    have q1 : (match W.heap[g]? with | some (.cells cs _ _) => some cs | _ => none) = some #[.iface u v] := q1
    rw [hc] at q1
    exact Option.some.inj q1
  subst e
  exact ⟨by simp, _, t', hc, .inr ⟨u, v, rfl⟩⟩
theorem gl_int {g t : Nat} {zero : Array Value} (h : W.ShapedOpen P) (hg : g < P.globals.size) (h0 : ((begin P (fun _ _ => 0) default).world.heap[g]?).bind Obj.row? = some (zero, t)) (hz : zero.size = 1)
    (hb : P.buildable t = true) (hc : P.cellTypes P.depth t = some [t]) (hu : P.underlying t = some (.int .i64)) : g ∉ ([] : List Nat) ∧ ∃ v t, W.heap[g]? = some (.cells #[v] t (0, 0)) ∧ GlV false v := by
  obtain ⟨m, hm⟩ := cell_of_shapedOpen_int h hg h0 hz hb hc hu
  obtain ⟨cs, hh, hs, _⟩ := h.1 g zero t hg h0
  rcases cs with ⟨l⟩
  have hl : l.length = 1 := by simpa [hz] using hs
  obtain ⟨x, rfl⟩ := List.length_eq_one_iff.1 hl
  have hx : x = .int .i64 m := by simpa [World.cell?, hh] using hm
  subst hx
  exact ⟨by simp, _, t, hh, ⟨m, rfl⟩⟩

/-- The wrap, with the world's shape and a fact of one's own. -/
theorem returns_shaped {a : Assume} {C : Checked} {os : Os} {f : FuncId} {fn : Func} {s : ChangeSpec} {conds : List PathCond} {apart fresh handsOn again : Bool} {X : World → Array Value → Prop}
    (hX : ∀ (w w' : World) (args : Array Value), w.heap = w'.heap → X w args → X w' args)
    (own : ownKnob C.prog.godebug = none) (started : os.Started) (noInit : C.prog.inits.idxOf? f = none) (hfn : C.prog.funcs[f]? = some fn)
    (witness : ∃ (w : World) (tape : Tape) (i : Input), w.os = os ∧ (w.forCall tape i).Shaped C.prog ∧ i.vars = [] ∧ Input.okWide C.prog (w.forCall tape i) .any w.heap.size f i ∧
      ((s.pre enc C.prog fn conds apart (w.forCall tape i).memory i.args ∧ X (w.forCall tape i).memory i.args) ∧ sizedMet enc C.prog fn (OpenSpec.ofChange s) apart (w.forCall tape i).memory i.args) ∧ a.holds C.prog (lone (Frame.enter C.prog f i.args .normal) [] (w.forCall tape i)))
    (contract : ∀ (W : World) (base : Nat) (args : Array Value) (ds gs : List (DataW H)) (before : List MemPlace),
      (∀ (j : Nat) t v, fn.params[j]? = some t → args[j]? = some v → Value.okWide C.prog W .any base t v) →
      DataW.Whole enc C.prog fn.params.toList s.vars apart W args.toList ds gs before →
      conds.all (PathCond.test C.prog ⟨fn.params.toList, ds, s.plain.varTypes C.prog, gs⟩) = true →
      (DataW.weightsEach C.prog (fn.params.toList ++ s.plain.varTypes C.prog) (ds ++ gs)).all (· ≤ reachBytes) = true → X W args → W.ShapedOpen C.prog →
      Calls C.prog f args W fun e W' => ∃ v, e = .returned v ∧ s.post enc C.prog fn apart fresh handsOn again W args v W') :
    ReturnsInHanded a C os f .any (fun w args => (s.pre enc C.prog fn conds apart w args ∧ X w args) ∧ sizedMet enc C.prog fn (OpenSpec.ofChange s) apart w args) (s.post enc C.prog fn apart fresh handsOn again) := by
  refine returnsInHanded_of_calls own started noInit witness ?_
  intro w tape i _ hsh _ hok hpre _
  obtain ⟨_, _, _, fn', hfn', _, _, _, _, hval⟩ := hok
  obtain rfl : fn' = fn := Option.some.inj (hfn'.symm.trans hfn)
  obtain ⟨⟨⟨ds, gs, before, hw, hc⟩, hx⟩, hz⟩ := hpre
  refine (contract (w.forCall tape i) w.heap.size i.args ds gs before hval (DataW.Whole.of_heap (w' := w.forCall tape i) (by rfl) hw) hc (hz.weights hw) (hX _ _ _ (by rfl) hx) hsh).mono fun e W' he => ?_
  obtain ⟨v, rfl, hp⟩ := he
  exact ChangeSpec.post_blind hp
end
end Go.Proofs.YtolgjekokdimoaaGreatDoor
end

