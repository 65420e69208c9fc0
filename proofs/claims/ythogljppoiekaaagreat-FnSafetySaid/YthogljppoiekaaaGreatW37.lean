/-
  Part 37: contracts of functions, and the laws by which they are proved.
  Conditions: none.
-/
import Derived.Test.YthogljppoiekaaaGreatW5
set_option linter.unusedVariables false
set_option linter.unusedSimpArgs false
set_option linter.unusedSectionVars false
set_option maxRecDepth 100000
namespace Go.Proofs.YthogljppoiekaaaGreat
section
variable [zS]
inductive PlH where
 | done | take (i:Nat) (p:PlH) | tak2 (i:Nat) (p:PlH) | alt (i:Nat) (p q:PlH) | stop | one (i:Nat) (p:PlH)
def zSq(ops:Array Oper)(bs:List Nat):Nat→PlH→Array Bool→List Nat→Bool
 | _,.done,m,_=>(Region.ready .any ops m).isEmpty
 | f+1,.take i p,m,_=>(Region.ready .any ops m).contains i&&Region.free .any ops m i&&(match ops[i]? with | some o=>zKf o.op&&o.dst.isSome | none=>false) &&
   ((match ops[i]? with | some o=>zPn o.op | none=>false) || bs.all fun j=>j == i || m.getD j true || blk ops m i ops.size j)&&!bs.contains i&&zSq ops bs f p (m.setIfInBounds i true) []
 | f+1,.tak2 i p,m,_=>(Region.ready .any ops m).contains i&&Region.free .any ops m i&&ldB ops m i&&(match ops[i]? with | some o=>(match o.dst with | some d=>!(o.looksAt ops).contains d | none=>true) | none=>true)&&!bs.contains i&&zSq ops bs f p (m.setIfInBounds i true) []
 | f+1,.alt i p q,m,acc=>zSq ops bs f p (m.setIfInBounds i true) []&&zSq ops bs (f+1) q m (i :: acc)
 | _+1,.stop,m,acc=>!(Region.ready .any ops m).isEmpty&&(Region.ready .any ops m).all fun i=>acc.contains i
 | f+1,.one i p,m,_=>(Region.ready .any ops m == [i])&&bs.contains i&&zSq ops bs f p (m.setIfInBounds i true) []
 | 0,_,_,_=>false
def zPq(ops:Array Oper)(bs:List Nat)(p:PlH):Prop:=Region.noSelect ops=true∧zSq ops bs ops.size p (Array.replicate ops.size false) []=true
instance (ops:Array Oper) (bs:List Nat) (p:PlH):Decidable (zPq ops bs p):=by unfold zPq;infer_instance
def vcH(E:Env)(N:Nat)(keep:List Nat)(all:List Oper)(bs:List Nat)(H:Nat→St→(St→Prop)→Prop)(K:St→Prop):List (Oper × Nat)→PlH→St→Prop
 | _,.done,S=>K S
 | es,.take i p,S=>zMH E N keep all true i S (vcH E N keep all bs H K es p)
 | es,.tak2 i p,S=>(match all[i]? with | some o=>zMH E N keep all true i S (vcH E N keep all bs H K ((o,o.dst.getD 0) :: es) p) | none=>False)
 | es,.alt i p q,S=>zMH E N keep all (zGg bs i) i S (fun S'=>(if zGg bs i then zWF E S' es else True)∧vcH E N keep all bs H K es p S')∧vcH E N keep all bs H K es q S
 | _,.stop,_=>True
 | es,.one i p,S=>H i S fun S'=>zWF E S' es∧vcH E N keep all bs H K es p S'
section
variable {C:Cx} {S:St} {a:Act} {w:World} {o:Oper} {R:RR} {g:Bool} {all l:List Oper} {k:List KI}
theorem zHr{bs:List Nat}{H:Nat→St→(St→Prop)→Prop}{K:St→Prop}{Q:Exit→Act→World→Prop}(hC:C.Ok)(hns:Region.noSelect all.toArray=true)(hQ:∀c a d v w,Q (.panic c) (a.put d v) w→Q (.panic c) a w)
  (hH:∀(i:Nat) (S:St) (a:Act) (w:World) (K':St→Prop),At C S a w→H i S K'→wpOp C.P all.toArray Q i (fun a' w'=>∃S',At C S' a' w'∧K' S') a w) (hK:∀S a w,K S→At C S a w→Q .normal a w):∀(p:PlH) (f:Nat) (m:Array Bool) (acc:List Nat) (L:List zNo) (S:St) (a:Act) (w:World),zSq all.toArray bs f p m acc=true→At C S a w→vcH C.E C.N C.keep all bs H K (L.map fun q=>(q.o,q.d)) p S→(∀q∈L,q.ok all m a) →
  (∀f',f=f'+1→∀i∈acc,i∈Region.ready .any all.toArray m→wpOp C.P all.toArray Q i (fun a' w'=>((i ∉ bs→Fr w [] w')∧(i∈bs→∀p∈L.map fun q=>Ys C.P q.o q.f q.v,p w'))∧wpH C.P .any all.toArray Q bs (L.map fun q=>Ys C.P q.o q.f q.v) f' (m.setIfInBounds i true) a' w') a w) →
  wpH C.P .any all.toArray Q bs (L.map fun q=>Ys C.P q.o q.f q.v) f m a w
 | .done,f,m,acc,L,S,a,w,hc,hat,hv,_,_=>by
  have hr:Region.ready .any all.toArray m=[]:=by
   cases f<;>simpa[zSq] using hc
  cases f with
  | zero=>exact⟨hr,hK S a w hv hat⟩
  | succ f=>exact⟨fun _=>hK S a w hv hat,fun i hi=>by rw[hr] at hi;cases hi⟩
 | .take i p,0,m,acc,L,S,a,w,hc,hat,hv,_,_=>by simp[zSq] at hc
 | .take i p,f+1,m,acc,L,S,a,w,hc,hat,hv,hL,_=>by
  simp only[zSq,Bool.and_eq_true] at hc
  obtain⟨⟨⟨⟨⟨c1,c2⟩,c3⟩,c4⟩,c6⟩,c5⟩:=hc
  have hib:i ∉ bs:=by simpa using c6
  have hrd:i∈Region.ready .any all.toArray m:=by simpa using c1
  split at c3
  ·rename_i oi hoi
   simp only[Bool.and_eq_true] at c3
   have hoi':all[i]?=some oi:=by simpa using hoi
   have hdd:oi.dst≠none:=by intro e;rw[e] at c3;simp at c3
   have hL':∀v,∀q∈L,q.ok all (m.setIfInBounds i true) (a.put oi.dst v):=fun v q hq=>zNo.step (hL q hq) hoi' (mem_ready.1 hrd).1 rfl
   cases hpu:zPn oi.op with
   | true=>
    obtain⟨v,y1,S',y2,y3⟩:=zPT hC hat hoi' c3.1 hpu hdd hv
    exact zRD hoi (Region.noSelect_spec hns) (fun c a w=>hQ c a _ v w) hib f m a w (Region.free_spec hoi c2) hrd y1 (zHr hC hns hQ hH hK p f _ [] L S' _ w c5 y2 y3 (hL' v) (fun _ _ i hi=>by cases hi))
   | false=>
    simp only[hoi,hpu,Bool.false_or] at c4
    obtain⟨v,y1,S',y2,y3⟩:=zRI hC hat hoi' c3.1 (by cases h:oi.op<;>rw[h] at hpu<;>first | rfl | (simp[zPn] at hpu)) hdd hv
    refine zSt hoi (Region.noSelect_spec hns) (fun c a w=>hQ c a _ v w) hib f m a w (Region.free_spec hoi c2) ?_ hrd y1 (zHr hC hns hQ hH hK p f _ [] L S' _ w c5 y2 y3 (hL' v) (fun _ _ i hi=>by cases hi))
    intro j hj hji hun
    have:=List.all_eq_true.1 c4 j hj
    simp only[Bool.or_eq_true,beq_iff_eq,hji,false_or,hun,Bool.false_eq_true] at this
    exact⟨_,this⟩
  ·cases c3
 | .tak2 i p,0,m,acc,L,S,a,w,hc,hat,hv,_,_=>by simp[zSq] at hc
 | .tak2 i p,f+1,m,acc,L,S,a,w,hc,hat,hv,hL,_=>by
  simp only[zSq,Bool.and_eq_true] at hc
  obtain⟨⟨⟨⟨⟨c1,c2⟩,c3⟩,c7⟩,c6⟩,c5⟩:=hc
  have hib:i ∉ bs:=by simpa using c6
  have hrd:i∈Region.ready .any all.toArray m:=by simpa using c1
  obtain⟨hun,oi,hoi,_⟩:=mem_ready.1 hrd
  have hoi':all[i]?=some oi:=by simpa using hoi
  simp only[vcH,hoi'] at hv
  obtain⟨d,v,e1,e1b,e2,y1,y2,y4,y5,S',y6,y7⟩:=zVl hC hat hoi' c3 hv
  rw[e2] at y7
  refine zRE hoi (Region.noSelect_spec hns) (fun c a w=>hQ c a _ v w) hib f m a w (Region.free_spec hoi c2) hrd y1 y2 ?_
  have hself:∀d',oi.dst=some d'→d' ∉ oi.looksAt all.toArray:=by
   intro d' hd'
   have hw:=c7
   rw[hoi] at hw
   simp only[hd'] at hw
   simpa using hw
  refine zHr hC hns hQ hH hK p f _ [] (⟨oi,d,a.eval,v⟩ :: L) S' _ w c5 y6 y7 ?_ (fun _ _ i hi=>by cases hi)
  intro q hq
  rcases List.mem_cons.1 hq with rfl | hq
  ·refine⟨e1,e1b,e2,execOp_put oi (zbS e1) a oi.dst v hself,y4,fun j oj hj hm=>?_⟩
   by_cases hij:i=j
   ·subst hij
    have hlt:i < m.size:=by
     rcases Nat.lt_or_ge i m.size with h | h
     ·exact h
     ·simp[Array.getElem?_eq_none h] at hun
    simp[hlt] at hm
   ·exact y5 j oj hj (Ne.symm hij) (by rwa[getD_set_ne true hij] at hm)
  ·exact zNo.step (hL q hq) hoi' hun rfl
 | .alt i p q,0,m,acc,L,S,a,w,hc,hat,hv,_,_=>by simp[zSq] at hc
 | .alt i p q,f+1,m,acc,L,S,a,w,hc,hat,hv,hL,hacc=>by
  simp only[zSq,Bool.and_eq_true] at hc
  obtain⟨hv1,hv2⟩:=hv
  refine zHr hC hns hQ hH hK q (f+1) m (i :: acc) L S a w hc.2 hat hv2 hL fun f' hf' j hj hrd=>?_
  cases hf'
  rcases List.mem_cons.1 hj with e | hj
  ·subst e
   obtain⟨hun,oi,hoi,_⟩:=mem_ready.1 hrd
   have hoi':all[j]?=some oi:=by simpa using hoi
   refine wpOp_mono (fun a' w' h3=>?_) (zNu hoi (zRL (bs:=bs) hC hat hv1))
   obtain⟨⟨h4,S',h5,h6,h7⟩,hk⟩:=h3
   obtain⟨u,hk⟩:=hk
   have hL':∀q∈L,q.ok all (m.setIfInBounds j true) a':=fun q hq=>zNo.step (hL q hq) hoi' hun hk
   refine⟨⟨fun hb=>h4 ?_,fun hb=>?_⟩,zHr hC hns hQ hH hK p f _ [] L S' a' w' hc.1 h5 h7 hL' (fun _ _ i hi=>by cases hi)⟩
   ·cases hm:zGg bs j with
    | false=>rfl
    | true=>exact absurd (zDP.1 hm) hb
   ·rw[if_pos (zDP.2 hb)] at h6
    exact zKC hC h5 hL' h6
  ·exact hacc f rfl j hj hrd
 | .stop,0,m,acc,L,S,a,w,hc,hat,hv,_,_=>by simp[zSq] at hc
 | .stop,f+1,m,acc,L,S,a,w,hc,hat,hv,hL,hacc=>by
  simp only[zSq,Bool.and_eq_true,Bool.not_eq_true',List.all_eq_true,List.contains_iff_mem] at hc
  refine⟨fun h=>by rw[h] at hc;simp at hc,fun i hi=>hacc f rfl i (hc.2 i hi) hi⟩
 | .one i p,0,m,acc,L,S,a,w,hc,hat,hv,_,_=>by simp[zSq] at hc
 | .one i p,f+1,m,acc,L,S,a,w,hc,hat,hv,hL,_=>by
  simp only[zSq,Bool.and_eq_true,beq_iff_eq,List.contains_iff_mem] at hc
  obtain⟨⟨hr,hib⟩,hc⟩:=hc
  refine⟨fun h=>(by rw[hr] at h;cases h),fun j hj=>?_⟩
  have hj':=hj
  rw[hr] at hj'
  cases List.mem_singleton.1 hj'
  obtain⟨hun,oi,hoi,_⟩:=mem_ready.1 hj
  have hoi':all[i]?=some oi:=by simpa using hoi
  refine wpOp_mono (fun a' w' h3=>?_) (zNu hoi (hH i S a w _ hat hv))
  obtain⟨⟨S',h5,h6,h7⟩,u,hk⟩:=h3
  have hL':∀q∈L,q.ok all (m.setIfInBounds i true) a':=fun q hq=>zNo.step (hL q hq) hoi' hun hk
  exact⟨⟨fun hb=>absurd hib hb,fun _=>zKC hC h5 hL' h6⟩,zHr hC hns hQ hH hK p f _ [] L S' a' w' hc h5 h7 hL' (fun _ _ i hi=>by cases hi)⟩
theorem zVN{id:Nat}{ops:Array Oper}{bs:List Nat}{p:PlH}{E:Env}{H:Nat→St→(St→Prop)→Prop}{K:St→Prop}(hC:C.Ok)(hE:zGf C.P E)
  (hH:∀(Q:Exit→Act→World→Prop) (i:Nat) (S:St) (a:Act) (w:World) (K':St→Prop),At C S a w→H i S K'→wpOp C.P ops.toList.toArray Q i (fun a' w'=>∃S',At C S' a' w'∧K' S') a w)
  (hK:∀S,K S→WP C k S) (hp:zPq ops bs p)
  (h:vcH E C.N C.keep ops.toList bs H K [] p { S with Lt:=[] }):WP C (.code (.region id ops true) :: k) S:=by
 intro a w hat
 let C0:Cx:={ C with E:=E }
 have hC0:C0.Ok:=⟨hE,hC.mix,hC.fin,hC.pan⟩
 refine wp_region_any hC.mix (zNv (bs:=bs) (es:=[]) _ _ _ _ ?_)
 have:=zHr (C:=C0) (all:=ops.toList) (bs:=bs) (H:=H) (K:=K) (Q:=xt C k) hC0 (by simpa using hp.1) (fun c a d v w=>zLU hC k c a d v w) (fun i S a w K' hat hh=>hH (xt C k) i S a w K' hat hh) (fun S' a w hS hat=>hK S' hS a w hat) p ops.size (Array.replicate ops.size false) [] [] { S with Lt:=[] } a _ (by simpa using hp.2) (zT1 (zU9 hat)) h (fun q hq=>by cases hq)
  (fun _ _ i hi=>by cases hi)
 simpa using this
end
end
section
variable [zS]
open Go.Lib Go.RowKit
def mRes(J:Nat)(keep:List Nat)(S:St)(o:Oper)(K:St→Prop):Prop:=
 match o.op with
 | .store t x y=>(match S.ev x,S.ev y,lk zAo t with
  | some (true,.elp r i wd 0),some (true,.agg xs),some ti=>(match zHH ⟨zAo,[]⟩ S true o,xs[J]?,lk S.A r with
   | some R,some (.sl h),some (.arr .dp T es0 p0)=>(match lk R.A r,lk R.A h,lk S.A h with
    | some (.arr .dp T' es1 p1),some .dead,some (.arr .dp ET l q)=>o.guard=none∧o.dst=none∧R.ob∧R.n=S.n∧T'=T∧wd=T.wd∧xs.length=ti.sz∧ti.sz=T.wd∧zGr xs=true∧T.leaves[J]?=some (.list ET)∧i < es0.length∧i < es1.length∧(es1.getD i PV.d).leaves[J]?=some (.list l) ∧
      (R.hy→K (zJW keep S true none { R with A:=zFA R.A h (.arr (.vw [r]) ET l (.el r i J)) }))
    | _,_,_=>False)
   | _,_,_=>False)
  | _,_,_=>False)
 | _=>False
structure zay (N:Nat) (keep:List Nat) (W:List KI→St→Prop):Prop where
 pln:∀(J:Nat) (bs:List Nat) (p:PlH) (id:Nat) (ops:Array Oper) (k:List KI) (S:St),zPq ops bs p→vcH ⟨zAo,[]⟩ N keep ops.toList bs (fun i S K=>match ops.toList[i]? with | some o=>mRes J keep S o K | none=>False) (fun S'=>W k S') [] p { S with Lt:=[] }→W (.code (.region id ops true) :: k) S
section
variable {C:Cx} {S:St} {a:Act} {w w':World} {o:Oper} {all l:List Oper} {k:List KI}
theorem zTM{w:World}{Ts T1 T2:List PTy}{ps p1 p2:List PV}{vs:List Value}{f:List Nat}(h:Lo w Ts ps vs f)(e1:Ts=T1++T2)(e2:ps=p1++p2)(hl:T1.length=p1.length) :
  ∃v1 v2 f1 f2,vs=v1++v2∧f=f1++f2∧Lo w T1 p1 v1 f1∧Lo w T2 p2 v2 f2:=by
 obtain⟨fs,rfl,h⟩:=h
 obtain⟨v1,v2,g1,g2,a1,a2,a3,a4⟩:=h.split e1 e2 hl
 exact⟨v1,v2,g1.flatten,g2.flatten,a1,by rw[a2,List.flatten_append],⟨g1,rfl,a3⟩,⟨g2,rfl,a4⟩⟩
theorem zZY{O:Value→PTy→List PV→List Nat→Prop}{Ts:List PTy}{ps:List PV}{vs:List Value}{fs:List (List Nat)}(h:LoP O Ts ps vs fs):∀{j:Nat} {T:PTy} {es:List PV} {u:Value},Ts[j]?=some (.list T)→ps[j]?=some (.list es)→vs[j]?=some u→∃g,g∈fs∧O u T es g:=by
 induction h with
 | nil=>intro j T es u h1;simp at h1
 | int h1 _ ih=>
  intro j T es u a b c
  cases j with
  | zero=>simp at a
  | succ j=>
   obtain⟨g,g1,g2⟩:=ih (by simpa using a) (by simpa using b) (by simpa using c)
   exact⟨g,by simp[g1],g2⟩
 | bool _ ih=>
  intro j T es u a b c
  cases j with
  | zero=>simp at a
  | succ j=>
   obtain⟨g,g1,g2⟩:=ih (by simpa using a) (by simpa using b) (by simpa using c)
   exact⟨g,by simp[g1],g2⟩
 | str h1 _ ih=>
  intro j T es u a b c
  cases j with
  | zero=>simp at a
  | succ j=>
   obtain⟨g,g1,g2⟩:=ih (by simpa using a) (by simpa using b) (by simpa using c)
   exact⟨g,by simp[g1],g2⟩
 | list h1 _ ih=>
  intro j T es u a b c
  cases j with
  | zero=>
   simp at a b c
   subst a;subst b;subst c
   exact⟨_,by simp,h1⟩
  | succ j=>
   obtain⟨g,g1,g2⟩:=ih (by simpa using a) (by simpa using b) (by simpa using c)
   exact⟨g,by simp[g1],g2⟩
theorem zYb{es:List PV}{i:Nat}(h:i < es.length):es.drop i=es.getD i PV.d :: es.drop (i+1):=by
 rw[List.drop_eq_getElem_cons h]
 simp[List.getD_eq_getElem?_getD,List.getElem?_eq_getElem h]
theorem zZQ{w:World}{v u:Value}{T ET:PTy}{es l:List PV}{f:List Nat}{i J:Nat}(hD:zIn w v T es f)(hi:i < es.length)(hJ:J < T.wd)(hT:T.leaves[J]?=some (.list ET))(hl:(es.getD i PV.d).leaves[J]?=some (.list l))(hc:zTv w v (i*T.wd+J) u) :
  ∃g,(∀x∈g,x∈f)∧Lv w [.list ET] [.list l] [u] g:=by
 rcases hD with ⟨rfl,_⟩ | ⟨b,f0,cs,rfl,hR,hS,hL⟩
 ·simp at hi
 obtain⟨⟨o,cap,c,t',fr,rfl,hblk,hfit,hncap,hmx,hfz,hcs⟩,hlen,hlim⟩:=hR
 have eE:es=es.take i++([es.getD i PV.d]++es.drop (i+1)):=by
  conv=>lhs;rw[←List.take_append_drop i es,zYb hi]
  rfl
 have hS1:∀e∈es.take i,Shp T e:=fun e he=>hS e (List.mem_of_mem_take he)
 have hS2:∀e∈[es.getD i PV.d],Shp T e:=fun e he=>hS e (by rw[eE];simp only[List.mem_append];exact .inr (.inl he))
 have eT:yf T es.length=yf T i++(yf T 1++yf T (es.length - (i+1))):=by
  rw[←zBZ,←zBZ];congr 1;omega
 have eP:yb es=yb (es.take i)++(yb [es.getD i PV.d]++yb (es.drop (i+1))):=by
  rw[←zAn,←zAn,←eE]
 have lt:(es.take i).length=i:=by rw[List.length_take];omega
 obtain⟨c1,cr,f1,fr',rfl,rfl,l1,lr⟩:=zTM hL eT eP (by rw[zCd,zBm hS1,lt])
 obtain⟨c2,c3,f2,f3,rfl,rfl,l2,l3⟩:=zTM lr rfl rfl (by rw[zCd,zBm hS2];rfl)
 have z1:c1.length=i*T.wd:=by rw[l1.lv.lens.2,zBm hS1,lt]
 have z2:c2.length=T.wd:=by rw[l2.lv.lens.2,zBm hS2];simp
 have hu:c2[J]?=some u:=by
  obtain⟨b',o',cc,tt,ff,d1,d2,d3⟩:=hc
  simp only[zIk,Option.some.injEq,Prod.mk.injEq] at d1
  obtain⟨rfl,rfl⟩:=d1
  rw[hblk] at d2
  simp only[Option.some.injEq,Obj.cells.injEq] at d2
  obtain⟨rfl,_,_⟩:=d2
  have h1:(c1++(c2++c3))[i*T.wd+J]?=some u:=by
   rw[←hcs,List.getElem?_take,if_pos (by simp only[List.length_append];omega),List.getElem?_drop,Array.getElem?_toList]
   exact d3
  rw[List.getElem?_append_right (by omega),z1,Nat.add_sub_cancel_left,List.getElem?_append_left (by omega)] at h1
  exact h1
 obtain⟨fs,rfl,h⟩:=l2
 have e1:yf T 1=T.leaves:=by simp[yf]
 have e2:yb [es.getD i PV.d]=(es.getD i PV.d).leaves:=by simp[yb]
 rw[e1,e2] at h
 obtain⟨g,g1,g2⟩:=zZY h hT hl hu
 refine⟨g,fun x hx=>?_,?_⟩
 ·have:=List.mem_flatten.2 ⟨g,g1,hx⟩
  simp[this]
 ·have:Lo w [.list ET] [.list l] [u] ([g].flatten):=⟨[g],rfl,.list g2 .nil⟩
  simpa using this.lv
theorem zex(hP:C.P=Tryz.prog){J i0:Nat}{K':St→Prop}{Q:Exit→Act→World→Prop}(hoi:all[i0]?=some o)(hat:At C S a w)(h:mRes J C.keep S o K'):wpOp C.P all.toArray Q i0 (fun a' w'=>∃S',At C S' a' w'∧K' S') a w:=by
 unfold wpOp
 simp only[List.getElem?_toArray,hoi]
 obtain⟨kp,hn,β,ϕ,sat,h0⟩:=hat
 unfold mRes at h
 have hT:zFj C.P ⟨zAo,[]⟩:=by rw[hP];exact zB []
 have hE:zGf C.P ⟨zAo,[]⟩:=by rw[hP];exact zD (zB [])
 have hgd:o.guard=none→Region.wanted o (yielded all.toArray a.tmps)=true:=fun hg=>yh (g:=true) (by rw[hg];rfl) sat
 split at h
 ·rename_i t x y ho
  split at h
  ·rename_i r i wd xs ti hx hy hti
   split at h
   ·rename_i R hh T es0 p0 hR hxs hr
    split at h
    ·rename_i T' es1 p1 ET ll q hr1 hh1 hh0
     obtain⟨hg,hd,hob,hRn,rfl,rfl,hxl,hsz,hlf,hTJ,hi0,hi1,hlJ,hk⟩:=h
     rw[if_pos (hgd hg)]
     obtain⟨hhy,v,w',β',ϕ',hrun,hpost,_,_⟩:=zXg hE (by simp[zO0,ho]) hR sat hob
     have hrb:=(sat.hb _ _ hr).1
     have hhb:=(sat.hb _ _ hh0).1
     have hD:zIn w (β r).v T' es0 (ϕ r):=sat.hp.sat _ _ hr
     rcases hD with ⟨rfl,_⟩ | ⟨b,f0,cs,hfe,hRm,hS,hL⟩
     ·simp at hi0
     obtain⟨⟨oo,cap,c,t',fr,hv,hblk,hfit,hncap,hmx,hfz,hcs⟩,hlen,hlim⟩:=hRm
     obtain⟨_,x2⟩:=zi hx sat
     have hxv:=(x2 rfl).1
     rw[zJE (by rw[hv];rfl)] at hxv
     obtain⟨_,y2⟩:=zi hy sat
     have hyv:=(y2 rfl).1
     have hbig:oo+i*T'.wd+0+ti.sz≤c.size:=by
      have:(i+1)*T'.wd≤cap*T'.wd:=Nat.mul_le_mul_right _ (by omega)
      rw[Nat.add_mul] at this
      omega
     obtain⟨w1,r1,r2,r3,_⟩:=zHx (P:=C.P) (hT _ _ hti) ho hxv hyv sat.hp.pl hxl hlf hblk hbig hfz.1
     have hw1:w'=w1:=by
      rcases hrun with q | ⟨q,_⟩<;>rw[r1] at q<;>cases q
      rfl
     subst hw1
     have hJ:J < xs.length:=(List.getElem?_eq_some_iff.1 hxs).1
     have hJT:J < T'.wd:=by omega
     have hβr:β' r=β r:=hpost.bt r hrb
     have hβh:β' hh=β hh:=hpost.bt hh hhb
     have hcell:zTv w' (β' r).v (i*T'.wd+J) (β' hh).v:=by
      rw[hβr,hβh,hv]
      refine⟨b,oo,_,t',fr,rfl,r2,?_⟩
      have hp:(c.toList.take (oo+i*T'.wd+0)).length=oo+i*T'.wd:=by rw[List.length_take,Array.length_toList];omega
      have hvl:(SV.vals β (SV.agg xs).cells).length=xs.length:=by simp[SV.vals_map,SV.cells]
      rw[List.getElem?_toArray,List.append_assoc,List.getElem?_append_right (by omega),hp,show oo+(i*T'.wd+J) - (oo+i*T'.wd)=J by omega,List.getElem?_append_left (by omega)]
      simp[SV.vals_map,SV.cells,hxs,SV.val]
     have hD1:zIn w' (β' r).v T' es1 (ϕ' r):=hpost.hp.sat _ _ hr1
     obtain⟨g,g1,g2⟩:=zZQ hD1 hi1 hJT hTJ hlJ hcell
     have hne:r≠hh:=fun e=>by subst e;rw[hr1] at hh1;cases hh1
     have hput:=hpost.hp.put (A':=zFA R.A hh (.arr (.vw [r]) ET ll (.el r i J))) (n:=hh) (hl0:=.arr (.vw [r]) ET ll (.el r i J)) (f:=g) (fun j=>yZ _ _ _) (fun hl e=>by rw[hh1] at e;exact(Option.some.inj e).symm) g2 (by simp[zq]) (fun _ x hx=>hpost.hp.all r _ hr1 trivial x (g1 x hx)) trivial (by intro _ _ _ _ _ _ hm;simp[zq] at hm)
      (fun j hl hj hjr x hx hm=>hpost.hp.dj j r hl _ hj hr1 (by simpa[yc] using hjr) (by simp[yc]) (by simp) x hx (g1 x hm)) ⟨by simp,T',es1,p1,hr1,hi1,hTJ,hlJ,hcell⟩ (by intro _ _ _ e;cases e) (by intro r' hr';simp only[yc,List.mem_singleton] at hr';subst hr';exact⟨hne,fun o t cs e=>by rw[hr1] at e;cases e⟩)
     have hbd:=zJB (A':=zFA R.A hh (.arr (.vw [r]) ET ll (.el r i J))) (k:=hh) hpost.hb (fun j=>yZ _ _ _) (hpost.hb _ _ hh1).1 (hl0:=.arr (.vw [r]) ET ll (.el r i J)) (by intro r' hr';simp only[List.mem_singleton] at hr';subst hr';exact(hpost.hb _ _ hr1).1)
     have hat':=zBe (o:=o) (R:={ R with A:=zFA R.A hh (.arr (.vw [r]) ET ll (.el r i J)) }) kp hn sat h0 (by rw[hd];trivial) ⟨hpost.v,hpost.bt,hput,hbd,hpost.lt,hpost.ok,hpost.n,hpost.fr⟩
     rw[hd] at hat'
     refine .inl (zeP.wp hrun ⟨_,?_,hk hhy⟩)
     rw[hd]
     exact hat'
    ·exact h.elim
   ·exact h.elim
  ·exact h.elim
 ·exact h.elim
theorem zXx(hC:C.Ok)(hP:C.P=Tryz.prog):zay C.N C.keep (WP C):=by
 refine⟨fun J bs p id ops k S hp h=>zVN hC (by rw[hP];exact zD (zB [])) (fun Q i S a w K' hat hh=>?_) (fun S hS=>hS) hp h⟩
 split at hh
 ·rename_i o ho
  exact zex hP ho hat hh
 ·exact hh.elim
end
theorem mG{N:Nat}{keep:List Nat}(C:Cx)(hC:C.Ok)(hP:C.P=Tryz.prog)(hN:C.N=N)(hk:C.keep=keep):zay N keep (WP C):=by
 subst hN hk
 exact zXx hC hP
end
end Go.Proofs.YthogljppoiekaaaGreat
