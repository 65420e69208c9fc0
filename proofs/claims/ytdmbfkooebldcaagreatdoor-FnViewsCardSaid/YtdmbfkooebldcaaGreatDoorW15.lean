/-
  Part 15: contracts of functions, and the laws by which they are proved.
  Conditions: none.
-/
import Derived.Test.YtdmbfkooebldcaaGreatDoorW14
import Derived.Lib.LaidTab
set_option linter.unusedVariables false
set_option linter.unusedSimpArgs false
set_option linter.unusedSectionVars false
set_option maxRecDepth 100000
namespace Go.Proofs.YtdmbfkooebldcaaGreatDoor
section
variable [zZ]
theorem lt5:5 < Tryz.prog.types.size:=of_decide_eq_true (by kernel_rfl)
theorem D5:Dat Tryz.prog 5 false [.int .u8]:=.int Tryz.underlying5 lt5
theorem lt22:22 < Tryz.prog.types.size:=of_decide_eq_true (by kernel_rfl)
theorem D22:Dat Tryz.prog 22 false [.list (.int .u8)]:=.slice (e:=5) (g:=false) (l:=[.int .u8]) Tryz.underlying22 D5 (by kernel_rfl) (by decide) (of_decide_eq_true (by kernel_rfl)) lt22
theorem dat_lt:∀t g l,Dat Tryz.prog t g l→t < Tryz.prog.types.size:=fun _ _ _ h=>h.lt
theorem laid_all:laidOutB Tryz.prog=true:=by kernel_rfl
theorem zSL:mapsRowed Tryz.prog=true:=by kernel_rfl
theorem zRd:((List.range Tryz.prog.types.size).all fun t=>match Tryz.prog.underlying t with | some (.slice e)=>decide (0 < Tryz.prog.cellsOf e) | _=>true)=true:=by kernel_rfl
theorem own_knob:ownKnob Tryz.prog.godebug=none:=by kernel_rfl
end
section
variable [zZ]
open Go.ChangeShapes Go.WideShapes Go.ChangeAt Go.RowKit
section
variable {H:Type} {enc:TypeId × Value→H} {P:Program} {W W':World}
theorem zRi{ns:List String}(hall:(ns.all fun n=>match (P.globalNamed n).bind fun g=>(P.globals[g]?).map (·.type) with | some t=>decide (t < P.types.size) | none=>true)=true){n:String}{g t:Nat}(hn:n∈ns)(hg:P.globalNamed n=some g)(ht:(P.globals[g]?).map (·.type)=some t):t < P.types.size:=by
 have h:=List.all_eq_true.1 hall n hn
 have e:((P.globalNamed n).bind fun g=>(P.globals[g]?).map (·.type))=some t:=by rw[hg];exact ht
 rw[e] at h
 exact of_decide_eq_true h
theorem zR8(h:Fr W [] W'){n:String}{cs:Array Value}(hv:W.var? P n=some cs):W'.var? P n=some cs:=by
 unfold World.var? at hv ⊢
 cases hg:P.globalNamed n with
 | none=>rw[hg] at hv;cases hv
 | some g=>
  rw[hg] at hv
  show(match W'.heap[g]? with | some (.cells cs _ _)=>some cs | _=>none)=_
  have hv:(match W.heap[g]? with | some (.cells cs _ _)=>some cs | _=>none)=some cs:=hv
  cases hb:W.heap[g]? with
  | none=>rw[hb] at hv;cases hv
  | some o=>
   rw[h.block g (Array.getElem?_eq_some_iff.1 hb).1 (by simp)]
   exact hv
theorem zFV{y:Nat}:∀{ts us:List TypeId} {ds gs:List (DataW H)},y∈DataW.weightsEach P ts ds→y∈DataW.weightsEach P (ts++us) (ds++gs)
 | [],us,ds,gs,h=>by cases ds<;>simp[DataW.weightsEach] at h
 | t :: ts,us,[],gs,h=>by simp[DataW.weightsEach] at h
 | t :: ts,us,d :: ds,gs,h=>by
  simp only[List.cons_append,DataW.weightsEach,List.mem_append] at h ⊢
  exact h.imp id zFV
theorem zEp{sp:Nat→Bool}:∀{ns:List String} {gs:List (DataW H)} {ps:List MemPlace},DataW.TrodVars enc P W sp ns gs ps→gs.length=ns.length
 | [],[],_,_=>rfl
 | [],_ :: _,_,h=>h.elim
 | _ :: _,[],_,h=>h.elim
 | n :: ns,d :: gs,ps,⟨g,t,cs,fuel,p,q,_,_,_,_,h,_⟩=>by simp[zEp h]
theorem zFY(K:Kids P (· < P.types.size))(hsl:((List.range P.types.size).all fun t=>match P.underlying t with | some (.slice e)=>decide (0 < P.cellsOf e) | _=>true)=true)(h:Fr W [] W') :
  ∀{ns:List String} {gs:List (DataW H)} {ps:List MemPlace},(∀n∈ns,∀g t,P.globalNamed n=some g→(P.globals[g]?).map (·.type)=some t→t < P.types.size)→DataW.TrodVars enc P W (fun _=>true) ns gs ps→(∀x∈ps,x.block < W.heap.size)→DataW.TrodVars enc P W' (fun b=>decide (b < W.heap.size)) ns gs ps
 | [],[],_,_,h0,_=>h0
 | [],_ :: _,_,_,h0,_=>h0.elim
 | _ :: _,[],_,_,h0,_=>h0.elim
 | n :: ns,d :: gs,ps,hn,⟨g,t,cs,fuel,p,q,h1,h2,h3,h4,h5,e⟩,hl=>by
  subst e
  refine⟨g,t,cs,fuel,p,q,h1,h2,zR8 h h3,?_,zFY K hsl h (fun m hm=>hn m (by simp[hm])) h5 fun x hx=>hl x (by simp[hx]),rfl⟩
  have h6:=DataW.trod_respare (spare':=fun b=>decide (b < W.heap.size)) K (fun t e ht=>slices_full_of P hsl t e ht) fuel t cs.toList _ (hn n (by simp) g t h1 h2) h4 (fun x hx=>by simpa using hl x (by simp[hx]))
  exact DataW.trod_carry fuel t _ _ h6 fun x hx=>zHz h (hl x (by simp[hx]))
theorem zSW{fn:Func}{f:FuncId}{s:ChangeSpec}{c:zS}{tb:Nat}{base:Nat}{args:Array Value}{ds gs:List (DataW H)}{before:List MemPlace}(hl:laidOutB P=true)(hmr:mapsRowed P=true)
  (hsl:((List.range P.types.size).all fun t=>match P.underlying t with | some (.slice e)=>decide (0 < P.cellsOf e) | _=>true)=true)
  (hdt:∀t g l,Dat P t g l→t < P.types.size) (hm:zJp P f c) (hG:zPG W []) (ha:zIq P fn.params.toList c.args) (hpar:∀t∈fn.params.toList,t < P.types.size) (hb:P.underlying tb=some .bool) (hres:fn.resultTypes=#[tb])
  (hv:∀n∈s.vars,∀g t,P.globalNamed n=some g→(P.globals[g]?).map (·.type)=some t→t < P.types.size)
  (hfn:∀H ds gs,ds.length=fn.params.size→gs.length=s.vars.length→(s.fn H (ds++gs)).results=[.lit (.bool true)]∧(s.fn H (ds++gs)).args=ds∧(s.fn H (ds++gs)).vars=gs)
  (hc:c.ret=[.bool]∧c.fresh=true∧(∀ps,c.pre ps)∧∀ps,c.res ps=[.bool true]) (hrd:zAr c.args=true)
  (hval:∀(j:Nat) t v,fn.params[j]?=some t→args[j]?=some v→Value.okWide P W .any base t v)
  (hW:DataW.Whole enc P fn.params.toList s.vars false W args.toList ds gs before)
  (hwt:(DataW.weightsEach P (fn.params.toList++s.plain.varTypes P) (ds++gs)).all (·≤reachBytes)=true) :
  Calls P f args W fun e W'=>∃v,e=.returned v∧s.post enc P fn false true false false W args v W':=by
 have hW':=hW
 have hlt:=hW.lt
 obtain⟨p,q,hA,hV,rfl,hfz,_⟩:=hW
 have hdl:∀{ts:List TypeId} {vs:List Value} {ds:List (DataW H)} {ps:List MemPlace},DataW.TrodAll enc P W 0 (fun _=>true) true ts vs ds ps→ds.length=ts.length:=by
  intro ts
  induction ts with
  | nil=>intro vs ds ps h;cases vs<;>cases ds<;>simp[DataW.TrodAll] at h ⊢
  | cons t ts ih=>intro vs ds ps h;cases vs<;>cases ds<;>simp[DataW.TrodAll] at h ⊢;obtain⟨_,_,_,h2,_⟩:=h;exact ih h2
 have hlen:=hdl hA
 have K:=kids_rows hl hmr
 obtain⟨qs,fs,hargs⟩:=zM7 K hdt ha (fun j t v hj hv'=>hval j t v (by simpa using hj) (by simpa using hv')) hA (fun y hy=>by simpa using List.all_eq_true.1 hwt y (zFV hy))
 obtain⟨c1,c2,c3,c4⟩:=hc
 obtain⟨r1,r2,r3⟩:=hfn H ds gs (by simpa using hlen) (zEp hV)
 have hcall:=hm W qs _ fs fs [] hargs (by simp) (by simp) (c3 qs) hG
 simp only[Array.toArray_toList] at hcall
 refine hcall.mono fun e W' he=>?_
 obtain⟨rvs,rfl,hFr,hcase⟩:=he
 have hret:∃fr,zIo W' c.ret (c.res qs) rvs fr:=by
  rcases hcase with ⟨_,fr,mo,h,_⟩ | ⟨h,_⟩
  ·exact⟨fr,h⟩
  ·rw[c2] at h;cases h
 obtain⟨fr,hret⟩:=hret
 rw[c1,c4] at hret
 have hrv:rvs=[.bool true]:=by
  cases hret with
  | cons h1 h2=>
   cases h2
   obtain⟨fs',h1,_⟩:=h1
   cases h1 with
   | bool h=>cases h;rfl
 subst hrv
 have hsame:∀sp:Nat→Bool,(∀x∈p,sp x.block=true)→DataW.TrodAll enc P W' 0 sp true fn.params.toList args.toList ds p:=fun sp hsp=>
  zGk hFr (hA.respare (T:=(· < P.types.size)) K (fun t e ht=>slices_full_of P hsl t e ht) hpar hsp) (fun x hx=>hlt x (by simp[hx]))
 refine⟨_,rfl,ds,gs,p++q,[],p,q,hW',?_,?_,?_,zK0 hFr _,fun h=>by cases h⟩
 ·simp only[r1,hres]
  exact trodAll_cons_mk (shut_bool hb _) trodAll_mk0
 ·simp only[r2]
  exact hsame _ fun x hx=>by simpa using hlt x (by simp[hx])
 ·simp only[r3]
  exact zFY K hsl hFr hv hV fun x hx=>hlt x (by simp[hx])
end
end
end Go.Proofs.YtdmbfkooebldcaaGreatDoor
