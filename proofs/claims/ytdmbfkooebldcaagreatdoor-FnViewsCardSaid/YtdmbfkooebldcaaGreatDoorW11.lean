/-
  Part 11: contracts of functions, and the laws by which they are proved.
  Conditions: none.
-/
import Derived.Test.YtdmbfkooebldcaaGreatDoorW5
set_option linter.unusedVariables false
set_option linter.unusedSimpArgs false
set_option linter.unusedSectionVars false
set_option maxRecDepth 100000
namespace Go.Proofs.YtdmbfkooebldcaaGreatDoor
section
variable [zZ]
section
variable {P:Program} {E:Env} {N:Nat} {w0:World} {X F:List Nat} {S:St} {β:Nat→GV} {ϕ:Nat→List Nat} {a:Act} {w w':World} {o:Oper} {A:Hp}
theorem zOM {t u e ty : TypeId} {tu te : TI} {n q κ : Nat} {es es0 new : List PV} {p : Pth} {rs : List Nat} {xv : Value} {cells : List Value} (hp : zL w0.heap.size X F A β ϕ w) (hb : Bd n β A) (hw : Fr w0 X w)
    (hq : lk A q = some (.arr .dp te.pty es p)) (hκ : lk A κ = some (.arr (.vw rs) te.pty es0 (.sub q 0))) (hf : zBD te.pty = true)
    (hu : P.underlying t = some (.slice e)) (htu : P.underlying u = some tu.d) (hd : tu.d = .slice tu.el ∨ tu.d = .string) (hTe : yX P e te)
    (hN : Lv w (zX te.pty new.length) (zT new) cells []) (hS' : ∀ e ∈ new, Shp te.pty e)
    (hlen : ∀ w1, (Builtin.lenOf xv).run P w1 = .ok new.length w1) (hfc : ∀ w1, w1.heap = w.heap → (Builtin.firstCells te.pty.wd new.length xv).run P w1 = .ok cells.toArray w1)
    (hB : (es.length + new.length) * te.bytes ≤ LIM) :
    ∃ v' w' ϕ', (Builtin.append_ #[t, u] ty #[(β q).v, xv]).run P w = .ok v' w' ∧ Fr w0 X w' ∧
      ((zL w0.heap.size X F ((n, .arr .dp te.pty (es ++ new) .no) :: yk (zK [q] A) κ (.arr (.vw [n]) te.pty es0 (.sub n 0))) (upd β n (gv v')) ϕ' w' ∧ Bd (n + 1) (upd β n (gv v')) ((n, .arr .dp te.pty (es ++ new) .no) :: yk (zK [q] A) κ (.arr (.vw [n]) te.pty es0 (.sub n 0)))) ∨
       (zL w0.heap.size X F ((n, .arr .dp te.pty (es ++ new) .no) :: yk (zK [q] A) κ (.arr .dp te.pty es0 .no)) (upd β n (gv v')) ϕ' w' ∧ Bd (n + 1) (upd β n (gv v')) ((n, .arr .dp te.pty (es ++ new) .no) :: yk (zK [q] A) κ (.arr .dp te.pty es0 .no)))) := by
  have tg := zHv (n := n) hp hb hq (.inl rfl)
  obtain ⟨cs, g, bt, q1, q2, q3, q4, q5⟩ := zFs ⟨[], rfl, .nil⟩ (tg.own.1 rfl)
  have hg : g = [] := zA7 q2.lv (yq hf _)
  subst hg
  have hcl : cells.length = new.length * te.pty.wd := by rw [hN.lens.2, ya hS']
  obtain ⟨v', w', b', r1, r2, r3, r4, r5, r6, r7, r8⟩ := zCg (P := P) (w := w) (ty := ty) (m := new.length) hu htu hd hTe (zID hTe).1 q1 hcl (zMJ hN) hlen hfc hB hTe.bpos
  obtain ⟨fs, l1, l2⟩ := zJC (O := zJm w) hN (yq hf _)
  have hNo : Lo w (zX te.pty new.length) (zT new) cells [] := ⟨fs, l1.symm, l2⟩
  have hown : zGf (Lo w') w' v' te.pty (es ++ new) (zHQ b' ([] ++ [])) := zFt (w := w) (L := Lo) zG1 (fun _ _ _ _ _ _ h hf => h.frame hf) (by simpa using r2) q2 hNo q3 hS' (by simp)
  simp only [List.append_nil] at hown
  have hone : v'.oneCell' = true := by
    rcases r2 with ⟨_, _, _, a, rfl⟩ | ⟨_, _, ⟨⟨o, cap, c, t, fr, rfl, _⟩, _⟩⟩<;>rfl
  have hbtf : ∀ b, bt = some b → b ∈ ϕ q := by
    intro b e
    subst e
    rw [q4];simp [zHQ]
  have hbto : ∀ b, bt = some b → b ∈ zH (ϕ q) (.arr .dp te.pty es .no) := fun b e => by simpa [zH] using hbtf b e
  have hF : Fr w0 X w' := zO4 hw r3 r4 r5 r6 (fun b e => tg.ow b (hbto b e)) r7
  rcases r8 with e | ⟨ad, cap, hv, hv'⟩
  ·
    have hpr : zIs A κ = yk (zK [q] A) κ (.arr .dp te.pty es0 .no) := by simp [zIs, hκ, hq]
    obtain ⟨ϕ1, p1, p2, _⟩ := zEb hp hb κ
    rw [hpr] at p1 p2
    have h7 : (b' = (none : Option Nat) ∧ ∀ k : Nat, some k ≠ (none : Option Nat) → w'.heap[k]? = w.heap[k]?) ∨ (b' = some w.heap.size ∧ ∀ k, k < w.heap.size → w'.heap[k]? = w.heap[k]?) := by
      right
      refine ⟨e, ?_⟩
      rcases r7 with ⟨h1, _⟩ | ⟨_, h2⟩
      · rw [e] at h1
        have := (tg.all _ (hbtf _ h1.symm)).1
        omega
      · exact h2
    obtain ⟨c1, c2⟩ := zJl (n := n) (o' := .dp) (T := te.pty) (es := es ++ new) (v' := v') (b' := b') (w := w) (w' := w') (bt := none) (gf := []) p1 p2 hw (.inl rfl) (by simp) (by simp) (fun _ => ⟨by simp, fun _ _ _ _ _ _ => by simp, by simp⟩) (by simp) h7 hone hown
    exact ⟨v', w', _, r1, hF, .inr ⟨c1, c2⟩⟩
  ·
    obtain ⟨c1, c2⟩ := zJl (n := n) (o' := .dp) (T := te.pty) (es := es ++ new) (v' := v') (b' := b') (w := w) (w' := w') (bt := bt) (gf := []) tg.hp tg.hb hw (.inl rfl)
      (fun b e => ⟨fun i hl hi hdd hm => tg.ap i hl hi hdd b hm (hbto b e), tg.ow b (hbto b e), (tg.all b (hbtf b e)).2, by simp⟩) (by simp) (fun _ => ⟨by simp, fun _ _ _ _ _ _ => by simp, by simp⟩) (by simp) r7 hone hown
    have hpt : zFB A β w (β κ) rs te.pty es0 (.sub q 0) := hp.pt _ _ hκ
    obtain ⟨hrs, es1, p1, hr1, hle, hes, ad', l', cap', hs1, hs2⟩ := hpt
    have e1 : es1 = es := by
      rcases hr1 with hr1 | hr1<;>rw [hq] at hr1<;>cases hr1
      rfl
    subst e1
    rw [hs1] at hv
    simp only [Value.slice.injEq] at hv
    obtain ⟨rfl, hl', rfl⟩ := hv
    have hκn : κ < n := (hb _ _ hκ).1
    have hdead : ∀ hl, lk (zK [q] A) κ = some hl → hl = .dead := by
      intro hl h
      rw [zBW, hκ] at h
      have : zLQ [q] rs = true := zFN.2 ⟨q, hrs, by simp⟩
      simp only [Option.map_some, zNm, this, if_true, Option.some.injEq] at h
      split at h<;>exact h.symm
    have hLn := zCG.lv hown
    have hvl : v' = .slice ad' (es1 ++ new).length cap' := by rw [hv'];simp
    obtain ⟨f', hLκ, hsub⟩ := zOs (l := 0) (h := es0.length) hLn hvl (Nat.zero_le _) (by simp;omega)
    have hes0 : ((es1 ++ new).drop 0).take (es0.length - 0) = es0 := by
      rw [List.drop_zero, Nat.sub_zero, List.take_append_of_le_length (by omega)]
      simpa using hes.symm
    rw [hes0] at hLκ
    simp only [Nat.sub_zero, Nat.zero_mul] at hLκ hs2
    rw [← hs2] at hLκ
    have hAk : ∀ i, lk ((n, .arr .dp te.pty (es1 ++ new) .no) :: yk (zK [q] A) κ (.arr (.vw [n]) te.pty es0 (.sub n 0))) i = if i = κ then some (.arr (.vw [n]) te.pty es0 (.sub n 0)) else lk ((n, .arr .dp te.pty (es1 ++ new) .no) :: zK [q] A) i := by
      intro i
      simp only [zBC, zP]
      by_cases h1 : i = n
      · have : i ≠ κ := by omega
        simp [h1, this]
        omega
      · simp [h1]
    have hβκ : upd β n (gv v') κ = β κ := zs _ _ _ hκn
    have hnn : lk ((n, HL.arr .dp te.pty (es1 ++ new) .no) :: zK [q] A) n = some (.arr .dp te.pty (es1 ++ new) .no) := by simp [lk]
    have hput := c1.put (A' := (n, .arr .dp te.pty (es1 ++ new) .no) :: yk (zK [q] A) κ (.arr (.vw [n]) te.pty es0 (.sub n 0))) (n := κ) (hl0 := .arr (.vw [n]) te.pty es0 (.sub n 0)) (f := f') hAk
      (fun hl h => by rw [zBC, if_neg (by omega)] at h;exact hdead hl h)
      (by rw [hβκ];exact hLκ) (by simp [zH]) (fun _ b hb' => c1.all _ _ hnn trivial b (by rw [zi];exact hsub b hb')) trivial (by intro i hl hi hd b hb' hm;simp [zH] at hm)
      (fun i hl hi hn b hb' hm => c1.dj i n hl _ hi hnn (by simpa [zM] using hn) (by simp [zM]) (by simp) b hb' (by rw [zi];exact hsub b hm))
      (by
        rw [hβκ]
        exact ⟨by simp, _, _, .inl hnn, by simp;omega, by rw [List.drop_zero, List.take_append_of_le_length (by omega)];simpa using hes, ad', (es1 ++ new).length, cap', by rw [zi];exact hvl, by simpa using hs2⟩)
      (by simp) (by intro r hr;simp only [zM, List.mem_singleton] at hr;subst hr;exact ⟨by omega, fun o t cs h => by rw [hnn] at h;cases h⟩)
    refine ⟨v', w', _, r1, hF, .inl ⟨hput, zCB c2 hAk (by omega) (fun r hr => ?_)⟩⟩
    simp only [List.mem_singleton] at hr;omega
end
structure KA where
 hy:Prop
 ob:Prop
 A1:Hp
 A2:Hp
def zSb(E:Env)(S:St)(κ:Nat)(o:Oper):Option KA:=
 match o.op with
 | .call c=>match c.callee,c.argTypes.toList,evs S true c.args.toList with
  | .builtin .append,[t,u],some (ob0,[.sl q,x])=>match lk S.A κ,lk S.A q,lk E.ty t,lk E.ty u with
   | some (.arr (.vw _) T0 es0 (.sub q' 0)),some (.arr .dp T es _),some ti,some tu=>match lk E.ty ti.el,zDH S.A T x with
    | some te,some (o',new)=>if q'=q then some ⟨es.length≤LIM,ob0∧o'∧(tu.d=.slice tu.el∨tu.d=.string)∧ti.d=.slice ti.el∧T=te.pty∧T0=T∧zBD T=true∧(es.length+new.length)*te.bytes≤LIM,
      (S.n,.arr .dp T (es++new) .no) :: yk (zK [q] S.A) κ (.arr (.vw [S.n]) T es0 (.sub S.n 0)),
      (S.n,.arr .dp T (es++new) .no) :: yk (zK [q] S.A) κ (.arr .dp T es0 .no)⟩ else none
    | _,_=>none
   | _,_,_,_=>none
  | _,_,_=>none
 | _=>none
def zRj(E:Env)(N:Nat)(keep:List Nat)(κ:Nat)(all:List Oper)(K:St→Prop):List Oper→St→Prop
 | [],S=>K S
 | o :: l,S=>match zDi S all o.guard with
  | none=>False
  | some g=>match zSb E S κ o with
   | some R=>g=true∧R.ob∧zBt N keep true o.dst∧(R.hy→zRj E N keep κ all K l (zDR keep S true o.dst ⟨True,True,.sl S.n,R.A1,S.n+1⟩)∧zRj E N keep κ all K l (zDR keep S true o.dst ⟨True,True,.sl S.n,R.A2,S.n+1⟩))
   | none=>match zD4 E S g o with
    | none=>False
    | some R=>R.ob∧zBt N keep g o.dst∧(imp g R.hy→zRj E N keep κ all K l (zDR keep S g o.dst R))
def kAt(E:Env)(S:St)(κ:Nat)(all:List Oper)(i:Nat):Option KA:=
 match all[i]? with
 | some o=>match o.guard with
  | none=>zSb E S κ o
  | some _=>none
 | none=>none
def zGL(all:List Oper)(i:Nat):Option Nat:=match all[i]? with | some o=>o.dst | none=>none
def zLD(E:Env)(N:Nat)(keep:List Nat)(κ:Nat)(all:List Oper)(bs:List Nat)(K:St→Prop):List (Oper × Nat)→Pl→St→Prop
 | _,.done,S=>K S
 | es,.take i p,S=>zDX E N keep all true i S (zLD E N keep κ all bs K es p)
 | es,.tak2 i p,S=>(match all[i]? with | some o=>zDX E N keep all true i S (zLD E N keep κ all bs K ((o,o.dst.getD 0) :: es) p) | none=>False)
 | es,.alt i p q,S=>(match kAt E S κ all i with
   | some R=>yw bs i=true∧R.ob∧zBt N keep true (zGL all i)∧(R.hy →
     (zHG E (zDR keep S true (zGL all i) ⟨True,True,.sl S.n,R.A1,S.n+1⟩) es∧zLD E N keep κ all bs K es p (zDR keep S true (zGL all i) ⟨True,True,.sl S.n,R.A1,S.n+1⟩)) ∧
     (zHG E (zDR keep S true (zGL all i) ⟨True,True,.sl S.n,R.A2,S.n+1⟩) es∧zLD E N keep κ all bs K es p (zDR keep S true (zGL all i) ⟨True,True,.sl S.n,R.A2,S.n+1⟩)))
   | none=>zDX E N keep all (yw bs i) i S (fun S'=>(if yw bs i then zHG E S' es else True)∧zLD E N keep κ all bs K es p S'))∧zLD E N keep κ all bs K es q S
 | _,.stop,_=>True
def kDup(S:St)(t:Nat)(K:St→Prop):Prop:=
 match lk S.Lp t with
 | some (.sl h)=>match lk S.A h with
  | some (.arr .dp T es _)=>K ⟨yk S.Lp t (.sl S.n),S.Lt,(S.n,.arr (.vw [h]) T es (.sub h 0)) :: S.A,S.n+1⟩
  | _=>False
 | _=>False
structure zIp (E:Env) (N:Nat) (keep:List Nat) (fin:St→Prop) (W:List KI→St→Prop):Prop where
 vcb:∀(brk:List Nat) (pls:List (Nat × List Nat × Pl)) (k:List KI) (S:St),vcK E N keep fin W pls brk k S→W k S
 run:∀(κ:Nat) (all l:List Oper) (k:List KI) (S:St),zRj E N keep κ all (W k) l S→W (.run all l :: k) S
 drw:∀(κ id:Nat) (ops:Array Oper) (bs:List Nat) (p:Pl) (k:List KI) (S:St),zJ5 ops bs p→zLD E N keep κ ops.toList bs (W k) [] p { S with Lt:=[] }→W (.code (.region id ops true) :: k) S
 reg:∀(id:Nat) (ops:Array Oper) (k:List KI) (S:St),W (.run ops.toList ops.toList :: k) { S with Lt:=[] }→W (.code (.region id ops false) :: k) S
 dup:∀(t:Nat) (k:List KI) (S:St),kDup S t (W k)→W k S
section
variable {C:Cx} {S:St} {a:Act} {w w':World} {o:Oper} {all l:List Oper} {k:List KI}
theorem zG5{κ:Nat}{R:KA}(hE:zAQ C.P C.E)(kp:Kp C.keep S)(hn:C.n0≤S.n){β:Nat→GV}{ϕ:Nat→List Nat}(sat:Sat C.N C.w0 C.X C.F S β ϕ a w)(h0:∀h,h < C.n0→β h=C.β0 h)(hd:zBt C.N C.keep true o.dst)(h:zSb C.E S κ o=some R)(hob:R.ob) :
  R.hy∧∃v w',zRa C.P o a w v w'∧(At C (zDR C.keep S true o.dst ⟨True,True,.sl S.n,R.A1,S.n+1⟩) (a.put o.dst v) w'∨At C (zDR C.keep S true o.dst ⟨True,True,.sl S.n,R.A2,S.n+1⟩) (a.put o.dst v) w'):=by
 unfold zSb at h
 split at h
 ·rename_i c ho
  split at h
  ·rename_i t u ob0 q x hc hats hvs
   split at h
   ·rename_i rs T0 es0 q' T es p ti tu hκ hq hti htu
    split at h
    ·rename_i te o' new hte hsrc
     split at h
     ·rename_i hqq
      subst hqq
      cases h
      obtain⟨b1,b2,b3,b4,rfl,rfl,b7,b8⟩:=hob
      obtain⟨consts,hr⟩:=ym ho hc hvs b1 sat
      obtain⟨e1,e2⟩:=yV hvs sat
      have hk:=(e2 rfl b1).2
      have hTe:=hE _ _ hte
      have hu:=(hE _ _ hti).und
      rw[b4] at hu
      obtain⟨cells0,fx0,s1,s2,s3,s4,s5,s6,s7,s8⟩:=zFc (P:=C.P) hsrc b2 sat.hp hk.2.1
      have hfx:fx0=[]:=zA7 s1 (yq b7 _)
      subst hfx
      obtain⟨v',w',ϕ',r1,r2,r3⟩:=zOM (P:=C.P) (ty:=o.type) sat.hp sat.hb sat.fr hq hκ b7 hu (hE _ _ htu).und b3 hTe s1 s2 s4 s5 b8
      have hle:es.length≤LIM:=(zCk (zCG.lv (sat.hp.sat _ _ hq))).1
      have hat2:c.argTypes=#[t,u]:=by apply Array.ext';simpa using hats
      have hrun:zRa C.P o a w v' w':=by
       left
       rw[hr]
       simp[builtin,hat2,SV.vals,SV.val,r1]
      refine⟨hle,v',w',hrun,?_⟩
      rcases r3 with ⟨c1,c2⟩ | ⟨c1,c2⟩
      ·exact .inl (yL (R:=⟨True,True,.sl S.n,_,S.n+1⟩) kp hn sat h0 hd ⟨fun _=>by simp only[SV.val,zi,gv],fun h hh=>zs _ _ _ hh,c1,c2,Nat.lt_succ_self _,trivial,Nat.le_succ _,r2⟩)
      ·exact .inr (yL (R:=⟨True,True,.sl S.n,_,S.n+1⟩) kp hn sat h0 hd ⟨fun _=>by simp only[SV.val,zi,gv],fun h hh=>zs _ _ _ hh,c1,c2,Nat.lt_succ_self _,trivial,Nat.le_succ _,r2⟩)
     ·cases h
    ·cases h
   ·cases h
  ·cases h
 ·cases h
theorem zB4(hC:C.Ok){κ:Nat}:∀(l:List Oper) (S:St),zRj C.E C.N C.keep κ all (WP C k) l S→WP C (.run all l :: k) S
 | [],S,h=>fun a w hat=>h a w hat
 | o :: l,S,h=>by
  intro a w hat
  obtain⟨kp,hn,β,ϕ,sat,h0⟩:=hat
  show wpList C.P all.toArray (xt C k) (o :: l) a w
  unfold wpList
  unfold zRj at h
  split at h
  ·exact h.elim
  ·rename_i g hg
   have hgd:=zg hg sat
   split at h
   ·rename_i R hR
    obtain⟨rfl,h1,h2,h3⟩:=h
    rw[if_pos hgd]
    obtain⟨q1,v,w',hr,hh⟩:=zG5 hC.env.ty kp hn sat h0 h2 hR h1
    refine .inl (hr.wp ?_)
    rcases hh with hh | hh
    ·exact zB4 hC l _ (h3 q1).1 _ _ hh
    ·exact zB4 hC l _ (h3 q1).2 _ _ hh
   ·split at h
    ·exact h.elim
    ·rename_i R hR
     obtain⟨h1,h2,h3⟩:=h
     cases g with
     | true=>
      rw[if_pos hgd]
      obtain⟨k1,k2⟩:=zD2 hC.env hR sat h1
      exact .inl (k2 _ _ fun v w' β' ϕ' hp _=>zB4 hC l _ (h3 fun _=>k1) _ _ (yL kp hn sat h0 h2 hp))
     | false=>
      rw[if_neg (by rw[hgd];simp)]
      obtain⟨k1,k2⟩:=zFu hR h1
      exact zB4 hC l _ (h3 fun e=>by cases e) _ _ (yI kp hn sat h0 h2 k1 k2)
theorem zJG{κ i:Nat}{R:KA}{K':St→Prop}{Q:Exit→Act→World→Prop}(hC:C.Ok)(hat:At C S a w)(h:kAt C.E S κ all i=some R)(hob:R.ob)(hd:zBt C.N C.keep true (zGL all i))
  (hK:R.hy→K' (zDR C.keep S true (zGL all i) ⟨True,True,.sl S.n,R.A1,S.n+1⟩)∧K' (zDR C.keep S true (zGL all i) ⟨True,True,.sl S.n,R.A2,S.n+1⟩)) :
  wpOp C.P all.toArray Q i (fun a' w'=>∃S',At C S' a' w'∧K' S') a w:=by
 unfold kAt at h
 split at h
 ·rename_i o ho
  split at h
  ·rename_i hg
   have hda:zGL all i=o.dst:=by simp[zGL,ho]
   rw[hda] at hd hK
   obtain⟨kp,hn,β,ϕ,sat,h0⟩:=hat
   have hgs:=zg (g:=true) (all:=all) (by rw[hg];rfl) sat
   unfold wpOp
   simp only[List.getElem?_toArray,ho]
   rw[if_pos hgs]
   obtain⟨q1,v,w',hr,hh⟩:=zG5 hC.env.ty kp hn sat h0 hd h hob
   refine .inl (hr.wp ?_)
   rcases hh with hh | hh
   ·exact⟨_,hh,(hK q1).1⟩
   ·exact⟨_,hh,(hK q1).2⟩
  ·cases h
 ·cases h
theorem zBJ{κ:Nat}{bs:List Nat}{K:St→Prop}{Q:Exit→Act→World→Prop}(hC:C.Ok)(hns:Region.noSelect all.toArray=true)(hQ:∀c a d v w,Q (.panic c) (a.put d v) w→Q (.panic c) a w)
  (hK:∀S a w,K S→At C S a w→Q .normal a w):∀(p:Pl) (f:Nat) (m:Array Bool) (acc:List Nat) (L:List zEn) (S:St) (a:Act) (w:World),chk all.toArray bs f p m acc=true→At C S a w→zLD C.E C.N C.keep κ all bs K (L.map fun q=>(q.o,q.d)) p S→(∀q∈L,q.ok all m a) →
  (∀f',f=f'+1→∀i∈acc,i∈Region.ready .any all.toArray m→wpOp C.P all.toArray Q i (fun a' w'=>((i ∉ bs→Fr w [] w')∧(i∈bs→∀p∈L.map fun q=>Ys C.P q.o q.f q.v,p w'))∧wpH C.P .any all.toArray Q bs (L.map fun q=>Ys C.P q.o q.f q.v) f' (m.setIfInBounds i true) a' w') a w) →
  wpH C.P .any all.toArray Q bs (L.map fun q=>Ys C.P q.o q.f q.v) f m a w
 | .done,f,m,acc,L,S,a,w,hc,hat,hv,_,_=>by
  have hr:Region.ready .any all.toArray m=[]:=by
   cases f<;>simpa[chk] using hc
  cases f with
  | zero=>exact⟨hr,hK S a w hv hat⟩
  | succ f=>exact⟨fun _=>hK S a w hv hat,fun i hi=>by rw[hr] at hi;cases hi⟩
 | .take i p,0,m,acc,L,S,a,w,hc,hat,hv,_,_=>by simp[chk] at hc
 | .take i p,f+1,m,acc,L,S,a,w,hc,hat,hv,hL,_=>by
  simp only[chk,Bool.and_eq_true] at hc
  obtain⟨⟨⟨⟨⟨c1,c2⟩,c3⟩,c4⟩,c6⟩,c5⟩:=hc
  have hib:i ∉ bs:=by simpa using c6
  have hrd:i∈Region.ready .any all.toArray m:=by simpa using c1
  split at c3
  ·rename_i oi hoi
   simp only[Bool.and_eq_true] at c3
   have hoi':all[i]?=some oi:=by simpa using hoi
   have hdd:oi.dst≠none:=by intro e;rw[e] at c3;simp at c3
   have hL':∀v,∀q∈L,q.ok all (m.setIfInBounds i true) (a.put oi.dst v):=fun v q hq=>zEn.step (hL q hq) hoi' (mem_ready.1 hrd).1 rfl
   cases hpu:zGb oi.op with
   | true=>
    obtain⟨v,y1,S',y2,y3⟩:=zFa hC hat hoi' c3.1 hpu hdd hv
    exact zGi hoi (Region.noSelect_spec hns) (fun c a w=>hQ c a _ v w) hib f m a w (Region.free_spec hoi c2) hrd y1 (zBJ hC hns hQ hK p f _ [] L S' _ w c5 y2 y3 (hL' v) (fun _ _ i hi=>by cases hi))
   | false=>
    simp only[hoi,hpu,Bool.false_or] at c4
    obtain⟨v,y1,S',y2,y3⟩:=zGl hC hat hoi' c3.1 (by cases h:oi.op<;>rw[h] at hpu<;>first | rfl | (simp[zGb] at hpu)) hdd hv
    refine zHs hoi (Region.noSelect_spec hns) (fun c a w=>hQ c a _ v w) hib f m a w (Region.free_spec hoi c2) ?_ hrd y1 (zBJ hC hns hQ hK p f _ [] L S' _ w c5 y2 y3 (hL' v) (fun _ _ i hi=>by cases hi))
    intro j hj hji hun
    have:=List.all_eq_true.1 c4 j hj
    simp only[Bool.or_eq_true,beq_iff_eq,hji,false_or,hun,Bool.false_eq_true] at this
    exact⟨_,this⟩
  ·cases c3
 | .tak2 i p,0,m,acc,L,S,a,w,hc,hat,hv,_,_=>by simp[chk] at hc
 | .tak2 i p,f+1,m,acc,L,S,a,w,hc,hat,hv,hL,_=>by
  simp only[chk,Bool.and_eq_true] at hc
  obtain⟨⟨⟨⟨⟨c1,c2⟩,c3⟩,c7⟩,c6⟩,c5⟩:=hc
  have hib:i ∉ bs:=by simpa using c6
  have hrd:i∈Region.ready .any all.toArray m:=by simpa using c1
  obtain⟨hun,oi,hoi,_⟩:=mem_ready.1 hrd
  have hoi':all[i]?=some oi:=by simpa using hoi
  simp only[zLD,hoi'] at hv
  obtain⟨d,v,e1,e1b,e2,y1,y2,y4,y5,S',y6,y7⟩:=zKF hC hat hoi' c3 hv
  rw[e2] at y7
  refine zGj hoi (Region.noSelect_spec hns) (fun c a w=>hQ c a _ v w) hib f m a w (Region.free_spec hoi c2) hrd y1 y2 ?_
  have hself:∀d',oi.dst=some d'→d' ∉ oi.looksAt all.toArray:=by
   intro d' hd'
   have hw:=c7
   rw[hoi] at hw
   simp only[hd'] at hw
   simpa using hw
  refine zBJ hC hns hQ hK p f _ [] (⟨oi,d,a.eval,v⟩ :: L) S' _ w c5 y6 y7 ?_ (fun _ _ i hi=>by cases hi)
  intro q hq
  rcases List.mem_cons.1 hq with rfl | hq
  ·refine⟨e1,e1b,e2,execOp_put oi (zPl e1) a oi.dst v hself,y4,fun j oj hj hm=>?_⟩
   by_cases hij:i=j
   ·subst hij
    have hlt:i < m.size:=by
     rcases Nat.lt_or_ge i m.size with h | h
     ·exact h
     ·simp[Array.getElem?_eq_none h] at hun
    simp[hlt] at hm
   ·exact y5 j oj hj (Ne.symm hij) (by rwa[getD_set_ne true hij] at hm)
  ·exact zEn.step (hL q hq) hoi' hun rfl
 | .alt i p q,0,m,acc,L,S,a,w,hc,hat,hv,_,_=>by simp[chk] at hc
 | .alt i p q,f+1,m,acc,L,S,a,w,hc,hat,hv,hL,hacc=>by
  simp only[chk,Bool.and_eq_true] at hc
  obtain⟨hv1,hv2⟩:=hv
  refine zBJ hC hns hQ hK q (f+1) m (i :: acc) L S a w hc.2 hat hv2 hL fun f' hf' j hj hrd=>?_
  cases hf'
  rcases List.mem_cons.1 hj with e | hj
  ·subst e
   obtain⟨hun,oi,hoi,_⟩:=mem_ready.1 hrd
   have hoi':all[j]?=some oi:=by simpa using hoi
   have hstep:wpOp C.P all.toArray Q j (fun a' w'=>(yw bs j=false→Fr w [] w')∧∃S',At C S' a' w'∧((if yw bs j then zHG C.E S' (L.map fun q=>(q.o,q.d)) else True)∧zLD C.E C.N C.keep κ all bs K (L.map fun q=>(q.o,q.d)) p S')) a w:=by
    split at hv1
    ·rename_i R hR
     obtain⟨k1,k2,k3,k4⟩:=hv1
     refine wpOp_mono (fun a' w' h3=>?_) (zJG (K':=fun S'=>zHG C.E S' (L.map fun q=>(q.o,q.d))∧zLD C.E C.N C.keep κ all bs K (L.map fun q=>(q.o,q.d)) p S') hC hat hR k2 k3 k4)
     obtain⟨S',h5,h6,h7⟩:=h3
     exact⟨fun e=>(Bool.noConfusion (k1.symm.trans e)),S',h5,(if_pos k1).symm ▸ h6,h7⟩
    ·exact zGo (bs:=bs) hC hat hv1
   refine wpOp_mono (fun a' w' h3=>?_) (zGh hoi hstep)
   obtain⟨⟨h4,S',h5,h6,h7⟩,hk⟩:=h3
   obtain⟨u,hk⟩:=hk
   have hL':∀q∈L,q.ok all (m.setIfInBounds j true) a':=fun q hq=>zEn.step (hL q hq) hoi' hun hk
   refine⟨⟨fun hb=>h4 ?_,fun hb=>?_⟩,zBJ hC hns hQ hK p f _ [] L S' a' w' hc.1 h5 h7 hL' (fun _ _ i hi=>by cases hi)⟩
   ·cases hm:yw bs j with
    | false=>rfl
    | true=>exact absurd (yK.1 hm) hb
   ·rw[if_pos (yK.2 hb)] at h6
    exact zDY hC h5 hL' h6
  ·exact hacc f rfl j hj hrd
 | .stop,0,m,acc,L,S,a,w,hc,hat,hv,_,_=>by simp[chk] at hc
 | .stop,f+1,m,acc,L,S,a,w,hc,hat,hv,hL,hacc=>by
  simp only[chk,Bool.and_eq_true,Bool.not_eq_true',List.all_eq_true,List.contains_iff_mem] at hc
  refine⟨fun h=>by rw[h] at hc;simp at hc,fun i hi=>hacc f rfl i (hc.2 i hi) hi⟩
theorem zNH{κ id:Nat}{ops:Array Oper}{bs:List Nat}{p:Pl}{K:St→Prop}(hC:C.Ok)(hK:∀S,K S→WP C k S)(hns:Region.noSelect ops=true)(hc:chk ops bs ops.size p (Array.replicate ops.size false) []=true)
  (h:zLD C.E C.N C.keep κ ops.toList bs K [] p { S with Lt:=[] }):WP C (.code (.region id ops true) :: k) S:=by
 intro a w hat
 refine wp_region_any hC.mix (zET (bs:=bs) (es:=[]) _ _ _ _ ?_)
 have:=zBJ (all:=ops.toList) (bs:=bs) (K:=K) (Q:=xt C k) hC (by simpa using hns) (fun c a d v w=>zCt hC k c a d v w) (fun S' a w hS hat=>hK S' hS a w hat) p ops.size (Array.replicate ops.size false) [] [] { S with Lt:=[] } a _ (by simpa using hc) (zM4 (zJj hat)) h (fun q hq=>by cases hq)
  (fun _ _ i hi=>by cases hi)
 simpa using this
theorem zLE{t:Nat}(h:kDup S t (WP C k)):WP C k S:=by
 intro a w hat
 obtain⟨kp,hn,β,ϕ,sat,h0⟩:=hat
 unfold kDup at h
 split at h
 ·rename_i i ht
  split at h
  ·rename_i T es p hl
   have hL:Lv w [.list T] [.list es] [(β i).v] (ϕ i):=zCG.lv (sat.hp.sat _ _ hl)
   obtain⟨hle,cap,ad,hv,hcap⟩:=zCk hL
   have hsub:subV (β i).v (gv (β i).v).v 0 es.length T.wd:=by
    refine⟨ad,es.length,cap,hv,?_⟩
    show(β i).v=_
    rw[hv]
    simp only[Nat.zero_mul,Nat.sub_zero]
    split
    ·rfl
    ·cases ad with
     | none=>rfl
     | some x=>simp[Addr.add]
   have hpth:zFB S.A β w (gv (β i).v) [i] T es (.sub i 0):=⟨by simp,es,p,.inl hl,by simp,by simp,hsub⟩
   obtain⟨c1,c2⟩:=zFO (n:=S.n) sat.hp sat.hb hL (zFX sat.hp sat.hb hl trivial (fun _ h=>h) (by simp[zM]) (by simp) (.inl (by simp)) (by simp)) hpth
   have hβ:∀h,h < S.n→upd β S.n (gv (β i).v) h=β h:=fun h hh=>zs _ _ _ hh
   refine h a w ⟨⟨?_,kp.2⟩,by show C.n0≤S.n+1;omega,_,_,⟨sat.df,sat.sz,?_,?_,c1,c2,sat.fr,sat.gl⟩,fun h hh=>(hβ h (by omega)).trans (h0 h hh)⟩
   ·intro t' v hv'
    simp only[zFy] at hv'
    split at hv'
    ·rename_i e;subst e;exact kp.1 _ _ ht
    ·exact kp.1 _ _ hv'
   ·intro t' v hv'
    simp only[zFy] at hv'
    split at hv'
    ·rename_i e;subst e;cases hv'
     obtain⟨q1,_,_⟩:=sat.lp _ _ ht
     exact⟨by rw[q1];simp only[SV.val,zi,gv],Nat.lt_succ_self _,trivial⟩
    ·obtain⟨q1,q2,q3⟩:=sat.lp _ _ hv'
     exact⟨by rw[SV.val_congr hβ v q2];exact q1,SV.lt_mono (Nat.le_succ _) v q2,SV.ok_congr hβ v q2 q3⟩
   ·intro t' g v hv'
    obtain⟨q1,q2,q3⟩:=sat.lt _ _ _ hv'
    exact⟨fun e=>SV.lt_mono (Nat.le_succ _) v (q1 e),fun e=>⟨by rw[SV.val_congr hβ v (q1 e)];exact(q2 e).1,SV.ok_congr hβ v (q1 e) (q2 e).2⟩,q3⟩
  ·exact h.elim
 ·exact h.elim
theorem zF2(hC:C.Ok):zIp C.E C.N C.keep C.fin (WP C):=
 ⟨fun brk pls k S h=>zHt hC (fun _ _ h=>h) _ k S (Nat.le_refl _) h,fun κ all l k S h=>zB4 hC l S h,
  fun κ id ops bs p k S hc h=>zNH hC (fun _ h=>h) hc.1 hc.2 h,
  fun id ops k S h a w hat=>by
   refine wp_region_list ?_
   have h2:wpList C.P ops.toList.toArray (xt C k) ops.toList a w:=h a w (zM4 hat)
   simpa using h2,fun t k S h=>zLE h⟩
end
def zNI(S:St):Option Nat→Prop
 | none=>True
 | some d=>lk S.Lp d=none∧lk S.Lt d=none
theorem zFW{S:St}{d:Option Nat}{a:Act}{v:Value}{t:Nat}(h:zNI S d)(ht:lk S.Lp t≠none∨lk S.Lt t≠none):(a.put d v).tmps[t]?=a.tmps[t]?:=by
 refine zOw fun e=>?_
 subst e
 rcases ht with ht | ht
 ·exact ht h.1
 ·exact ht h.2
def zKd(S:St)(o:Oper)(fid:Nat)(vs:List SV):Prop:=
 match o.op with
 | .call c=>match c.callee with
  | .value f=>S.ev f=some (true,.fn fid [])∧∃ob,evs S true c.args.toList=some (ob,vs)∧ob
  | _=>False
 | _=>False
structure zPF (P:Program) (W:List KI→St→Prop):Prop where
 inl:∀{fid:Nat} {fn:Func} {c2:Code} {E2:Env} (keep2:List Nat) (all l:List Oper) (o:Oper) (k:List KI) (S:St) (vs:List SV),
  P.funcs[fid]?=some fn→fn.body=some c2→(fn.name == "runtime.NumGoroutine")=false→fn.results=#[]→zCH P E2 →
  vs.length≤fn.ntmps→(List.range vs.length).all (keep2.contains ·)=true→o.guard=none→zNI S o.dst→zKd S o fid vs →
  (∀W2,zIm E2 fn.ntmps keep2 S.n (fun S'=>W (.run all l :: k) ⟨S.Lp,S.Lt,S'.A,S'.n⟩) W2→zIp E2 fn.ntmps keep2 (fun S'=>W (.run all l :: k) ⟨S.Lp,S.Lt,S'.A,S'.n⟩) W2→W2 [.code c2] ⟨zNd 0 vs,[],S.A,S.n⟩)→W (.run all (o :: l) :: k) S
section
variable {C:Cx} {S:St} {a:Act} {w w':World} {o:Oper} {all l:List Oper} {k:List KI}
theorem zSc(hC:C.Ok){fid:Nat}{fn:Func}{c2:Code}{E2:Env}(keep2:List Nat)(vs:List SV)(hfn:C.P.funcs[fid]?=some fn)(hbody:fn.body=some c2)(hname:(fn.name == "runtime.NumGoroutine")=false)(hres:fn.results=#[])(hE2:zCH C.P E2)
  (hlen:vs.length≤fn.ntmps) (hkeep:(List.range vs.length).all (keep2.contains ·)=true) (hg:o.guard=none) (hd:zNI S o.dst) (hcall:zKd S o fid vs)
  (h:∀W2,zIm E2 fn.ntmps keep2 S.n (fun S'=>WP C (.run all l :: k) ⟨S.Lp,S.Lt,S'.A,S'.n⟩) W2→zIp E2 fn.ntmps keep2 (fun S'=>WP C (.run all l :: k) ⟨S.Lp,S.Lt,S'.A,S'.n⟩) W2→W2 [.code c2] ⟨zNd 0 vs,[],S.A,S.n⟩):WP C (.run all (o :: l) :: k) S:=by
 intro a w hat
 obtain⟨kp,hn,β,ϕ,sat,h0⟩:=hat
 show wpList C.P all.toArray (xt C k) (o :: l) a w
 unfold wpList
 rw[if_pos (zg (g:=true) (all:=all) (by rw[hg];rfl) sat)]
 left
 unfold zKd at hcall
 split at hcall
 ·rename_i c ho
  split at hcall
  ·rename_i f hc
   obtain⟨hf,ob,hvs,hob⟩:=hcall
   obtain⟨f1,f2⟩:=zD hf sat
   obtain⟨f3,f4⟩:=f2 rfl
   obtain⟨v1,v2⟩:=yV hvs sat
   replace v1:=v1 rfl hob
   obtain⟨v3,v4⟩:=v2 rfl hob
   have hrun:=zC7 (P:=C.P) (w:=w) (ob:=ob) ho hc f3 v3 hfn (by rw[hbody];rfl) hname
   rw[List.append_nil] at hrun
   let Rr:Ending→World→Prop:=fun e w'=>∃v,e=.returned v∧wpList C.P all.toArray (xt C k) l (a.put o.dst v) w'
   let fin2:St→Prop:=fun S'=>WP C (.run all l :: k) ⟨S.Lp,S.Lt,S'.A,S'.n⟩
   let C2:Cx:=⟨C.P,E2,fn.ntmps,C.w0,C.X,C.F,keep2,S.n,β,bodyPost C.P fn Rr,fin2⟩
   have hfin:∀S' a2 w',At C2 S' a2 w'→fin2 S'→a2.defers=[]∧∃v,(results fn a2.tmps).run C.P w'=.ok v w'∧Rr (.returned v) w':=by
    intro S' a2 w' hat2 hS'
    obtain⟨kp2,hn2,β2,ϕ2,sat2,h02⟩:=hat2
    have hβ:∀h,h < S.n→β2 h=β h:=h02
    have hn2:S.n≤S'.n:=hn2
    refine⟨sat2.df,_,zDb (outs:=[]) (by rw[hres]) a2.tmps w' (fun r=>match r with | .tmp t=>pure (a2.tmps.getD t undef) | .cell t ty=>asAddr (a2.tmps.getD t undef) >>= fun x=>loadVar ty x) (fun _=>rfl) (fun _ _=>rfl) (vs:=[]) (by simp) rfl,_,rfl,?_⟩
    refine hS' _ w' ⟨kp,by show C.n0≤S'.n;omega,β2,ϕ2,⟨by cases o.dst<;>exact sat.df,by cases h:o.dst<;>simp[Act.put,sat.sz],?_,?_,sat2.hp,sat2.hb,sat2.fr,sat2.gl⟩,fun h hh=>(hβ h (by omega)).trans (h0 h hh)⟩
    ·intro t v ht
     obtain⟨q1,q2,q3⟩:=sat.lp _ _ ht
     exact⟨by rw[zFW hd (.inl (by rw[ht];simp)),SV.val_congr hβ v q2];exact q1,SV.lt_mono hn2 v q2,SV.ok_congr hβ v q2 q3⟩
    ·intro t g v ht
     obtain⟨q1,q2,q3⟩:=sat.lt _ _ _ ht
     refine⟨fun e=>SV.lt_mono hn2 v (q1 e),fun e=>⟨by rw[zFW hd (.inr (by rw[ht];simp)),SV.val_congr hβ v (q1 e)];exact(q2 e).1,SV.ok_congr hβ v (q1 e) (q2 e).2⟩,fun e=>by rw[zFW hd (.inr (by rw[ht];simp))];exact q3 e⟩
   have hC2:C2.Ok:=⟨hE2,hC.mix,fun S a w' hat hS=>⟨hfin S a w' hat hS,hfin S a w' hat hS⟩,fun c a d v w h=>⟨by have h1:=h.1;cases d<;>exact h1,h.2⟩⟩
   have hcalls:Calls C.P fid (SV.vals β vs).toArray w Rr:=by
    refine calls_of_wp hfn hbody ?_
    have hvl:(SV.vals β vs).length=vs.length:=by simp[SV.vals_map]
    refine h (WP C2) (zHK hC2) (zF2 hC2) _ w ⟨⟨?_,fun t x h=>(by cases h)⟩,Nat.le_refl _,β,ϕ,⟨rfl,?_,?_,fun t g v h=>(by cases h),sat.hp,sat.hb,sat.fr,sat.gl⟩,fun h _=>rfl⟩
    ·intro t v ht
     obtain⟨h1,h2⟩:=zFz ht
     obtain⟨h3,_⟩:=List.getElem?_eq_some_iff.1 h2
     exact List.all_eq_true.1 hkeep t (by simp only[Nat.sub_zero] at h3;simpa using h3)
    ·show((SV.vals β vs).toArray++Array.replicate (fn.ntmps - (SV.vals β vs).toArray.size) undef).size=fn.ntmps
     simp[hvl];omega
    ·intro t v ht
     obtain⟨_,h2⟩:=zFz ht
     simp only[Nat.sub_zero] at h2
     have hm1:=List.mem_of_getElem? h2
     refine⟨?_,SV.lts_iff.1 v1 v hm1,SV.oks_iff.1 v4 v hm1⟩
     obtain⟨h3,_⟩:=List.getElem?_eq_some_iff.1 h2
     show((SV.vals β vs).toArray++Array.replicate (fn.ntmps - (SV.vals β vs).toArray.size) undef)[t]?=_
     rw[Array.getElem?_append_left (by simp[hvl];omega)]
     simp[SV.vals_map,h2]
   unfold Oper.wp
   rw[hrun,Oper.upon_enter]
   refine hcalls.mono fun e w' he=>?_
   obtain⟨v,rfl,hv⟩:=he
   exact hv
  ·exact hcall.elim
 ·exact hcall.elim
theorem zMc(hC:C.Ok):zPF C.P (WP C):=
 ⟨fun keep2 all l o k S vs h1 h2 h3 h4 h5 h6 h7 h8 h9 h10 h=>zSc hC keep2 vs h1 h2 h3 h4 h5 h6 h7 h8 h9 h10 h⟩
end
theorem zR6{C:Cx}{E:Env}:∀k:List KI,xt { C with E:=E } k=xt C k
 | []=>rfl
 | .code c :: k=>by simp only[xt];rw[zR6 k]
 | .run l1 l2 :: k=>by simp only[xt];rw[zR6 k]
 | .blk i :: k=>by simp only[xt];rw[zR6 k]
 | .post p :: k=>by simp only[xt];rw[zR6 k];rfl
theorem WP_E{C:Cx}{E:Env}:WP { C with E:=E }=WP C:=by
 funext k S
 unfold WP
 rw[zR6];rfl
def KG(E:Env)(N:Nat)(keep:List Nat)(W:List KI→St→Prop):Prop:=∃fin,zIp E N keep fin W
theorem zNk{P:Program}{E:Env}{N:Nat}{keep:List Nat}(hE:zCH P E)(C:Cx)(hC:C.Ok)(hP:C.P=P)(hN:C.N=N)(hk:C.keep=keep):KG E N keep (WP C):=by
 subst hP hN hk
 have hC':({ C with E:=E }:Cx).Ok:=⟨hE,hC.mix,hC.fin,hC.pan⟩
 exact⟨C.fin,WP_E (C:=C) (E:=E) ▸ zF2 hC'⟩
end
end Go.Proofs.YtdmbfkooebldcaaGreatDoor
