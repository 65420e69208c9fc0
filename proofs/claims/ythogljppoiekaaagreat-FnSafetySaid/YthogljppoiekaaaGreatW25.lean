/-
  Part 25: contracts of functions, and the laws by which they are proved.
  Conditions: none.
-/
import Derived.Test.YthogljppoiekaaaGreatW23
import Derived.Test.YthogljppoiekaaaGreatW24
set_option linter.unusedVariables false
set_option linter.unusedSimpArgs false
set_option linter.unusedSectionVars false
set_option maxRecDepth 100000
namespace Go.Proofs.YthogljppoiekaaaGreat
section
variable [zS]
def zD0(n:ND):ST:=⟨n.term,n.vote,n.log⟩
def yH(ns:List PV)(i:Nat):ND:=z8 (nth ns i).A
def zKD(ss:List PV)(i:Nat):List UInt8:=(nth (nth ss i).A 0).S
def zQx(ss:List PV)(i:Nat):Int:=(nth (nth ss i).A 1).I
def sto(b:List UInt8)(n:Int):PV:=.agg [.str b,.int .i64 n]
theorem zMS(m:MG):yk (m.pv).A=m:=rfl
def zAe(n:ND)(d:List UInt8):ND:={ n with log:=n.log++[.agg [.int .i64 n.term,.str d]] }
def yG(n:ND)(d:List UInt8):ND:={ zAe n d with com:=zGi (zAe n d) (n.log.length+1) }
def zHG(n:ND)(d:List UInt8):ND × List PV × Int:=
 if n.up=false then (n,[],13) else if n.role≠2 then (n,[],12) else if (n.log.length:Int)=60 then (n,[],7) else (yG n d,zAx (yG n d) n.nodes.toNat,0)
def zJX(n:ND)(d:List UInt8):ND × List PV × Int:=
 if 65536 < d.length then (ND.no,[],2) else cond (zB9 n) (cond (inB d.length 1 400) (zHG n d) (ND.no,[],4)) (ND.no,[],1)
structure CL where
 ns:List PV
 ss:List PV
 ws:List PV
 ds:List PV
structure CA where
 kind:Int
 node:Int
 n:Int
 keep:Int
 data:List UInt8
def zLn(ws sent:List PV):List PV:=ws++sent.take (60 - ws.length)
def zFi(ds log:List PV)(com:Int):List PV:=ds++((log.take com.toNat).drop ds.length).map fun e=>.str (nth e.A 1).S
def zKm(c:CL)(x:ND)(sent:List PV):CL × Int:=
 if (zIt (zKD c.ss x.id.toNat) (zBR (zD0 (yH c.ns x.id.toNat)) (zD0 x))).2=true then
  (⟨c.ns.set x.id.toNat x.pv,c.ss.set x.id.toNat (sto (zIt (zKD c.ss x.id.toNat) (zBR (zD0 (yH c.ns x.id.toNat)) (zD0 x))).1 (zIt (zKD c.ss x.id.toNat) (zBR (zD0 (yH c.ns x.id.toNat)) (zD0 x))).1.length),zLn c.ws sent,zFi c.ds x.log x.com⟩,0)
 else (c,7)
def zQs(id cnt:Int)(s:ST):ND:={ zCr id cnt s.t s.v s.log with up:=false }
def zPD(c:CL)(id:Int)(b:List UInt8)(sure keep:Int):CL:=
 ⟨c.ns.set id.toNat (zQs id c.ns.length (yP (b.take (zU2 b.length sure keep))).1).pv,c.ss.set id.toNat (sto (yP (b.take (zU2 b.length sure keep))).2.1.1 (yP (b.take (zU2 b.length sure keep))).2.1.2),c.ws,c.ds⟩
def zHE(c:CL)(a:CA)(r:ND × List PV × Int):CL × Int:=
 if r.2.2≠0 then (c,r.2.2) else if a.kind=2 then zKm c r.1 r.2.1
 else if (zIt (zKD c.ss r.1.id.toNat) (zBR (zD0 (yH c.ns r.1.id.toNat)) (zD0 r.1))).2=true then
  (zPD c r.1.id (zIt (zKD c.ss r.1.id.toNat) (zBR (zD0 (yH c.ns r.1.id.toNat)) (zD0 r.1))).1 (zQx c.ss r.1.id.toNat) a.keep,0) else (c,7)
def zL9(c:CL)(a:CA)(m:MG):CL × Int:=
 if a.kind=3 then (c,0) else zHE c a (zKe (yH c.ns m.to.toNat) m)
def zKp(c:CL)(a:CA):CL × Int:=
 if inB a.n 0 (c.ws.length - 1)=false then (c,4) else if a.kind=4 then (if c.ws.length=60 then (c,7) else ({ c with ws:=c.ws++[nth c.ws a.n.toNat] },0))
 else zL9 { c with ws:=c.ws.eraseIdx a.n.toNat } a (yk (nth c.ws a.n.toNat).A)
def zO2(n:ND):ND:={ n with up:=true }
def zCy(c:CL)(r:ND × List PV × Int):CL × Int:=if r.2.2≠0 then (c,r.2.2) else zKm c r.1 r.2.1
def zIz(c:CL)(a:CA):CL × Int:=
 if a.kind=6 then (if (yH c.ns a.node.toNat).up=true then (c,9) else ({ c with ns:=c.ns.set a.node.toNat (zO2 (yH c.ns a.node.toNat)).pv },0))
 else if (yH c.ns a.node.toNat).up=false then (c,13)
 else if a.kind=5 then (zPD c a.node (zKD c.ss a.node.toNat) (zQx c.ss a.node.toNat) 0,0)
 else if a.kind=1 then zCy c (zJY (yH c.ns a.node.toNat) a.n)
 else if inB a.data.length 1 400=false then (c,4) else zCy c (zJX (yH c.ns a.node.toNat) a.data)
def zYK(k:Int):Bool:=k == 2 || k == 3 || k == 4 || k == 8
def ze7(k:Int):Bool:=k == 1 || k == 5 || k == 6 || k == 7
def zAS(c:CL)(a:CA):CL × Int:=
 if zYK a.kind=true then zKp c a else if ze7 a.kind=true then (if inB a.node 0 (c.ns.length - 1)=false then (c,4) else zIz c a) else (c,3)
def mgV(cnt:Int)(e:PV):Prop:=∃m:MG,e=m.pv∧mgB m=true∧m.frm < cnt∧m.to < cnt∧∀x∈m.es,isE x
theorem zOg{cnt:Int}{m:MG}(k1:1≤m.kind∧m.kind≤4)(f:0≤m.frm∧m.frm < cnt)(t:0≤m.to∧m.to < cnt)(c5:cnt≤5)(ne:m.frm≠m.to)(ht:1≤m.term∧m.term≤1000)(hi:0≤m.idx∧m.idx≤60)(hc:0≤m.com∧m.com≤60)(hl:0≤m.lt∧m.lt≤m.term)
  (h3:if m.kind=3 then zIr m.term 0 m.es=true∧(m.es.length:Int)≤60 - m.idx∧(m.es≠[]→m.lt≤(nth (nth m.es 0).A 0).I)∧(0 < m.idx∨m.lt=0) else m.es=[]) (he:∀x∈m.es,isE x):mgV cnt m.pv:=by
 refine⟨m,rfl,?_,f.2,t.2,he⟩
 have h1:zKn m=true:=by
  simp only[zKn,Bool.and_eq_true,zk,Bool.not_eq_true',decide_eq_false_iff_not]
  refine⟨⟨⟨⟨⟨⟨⟨k1,?_⟩,?_⟩,ne⟩,ht⟩,hi⟩,hc⟩,hl⟩<;>omega
 rw[mgB,h1,Bool.true_and]
 split at h3
 ·rename_i hk
  rw[hk]
  obtain⟨q1,q2,q3,q4⟩:=h3
  have e1:leB m.es.length 60=true:=by simp[leB];omega
  have e2:leB m.es.length (60 - m.idx)=true:=by simp[leB];omega
  have e3:(decide ((m.es.length:Int)=0) || leB m.lt (nth (nth m.es 0).A 0).I)=true:=by
   by_cases he:m.es=[]
   ·simp[he]
   ·simp[leB,q3 he]
  have e4:(ltB 0 m.idx || decide (m.lt=0))=true:=by
   rcases q4 with q | q<;>simp[ltB,q]
  simp only[zY5,zKl,q1,e1,e2,e3,e4,Bool.and_self,beq_self_eq_true,cond_true]
 ·rename_i hk
  have:(m.kind == 3)=false:=by simpa using hk
  rw[this,cond_false];simp[h3]
theorem zfE{t:Int}:∀{es:List PV} {p q:Int},p≤q→zIr t q es=true→zIr t p es=true
 | [],_,_,_,_=>rfl
 | e :: es,p,q,h,h1=>by
  simp only[zIr,Bool.and_eq_true,leB,decide_eq_true_eq] at h1 ⊢
  exact⟨⟨h1.1.1,by omega⟩,h1.2⟩
theorem zTo{t:Int}:∀{es:List PV} {p:Int} (k:Nat),zIr t p es=true→zIr t p (es.drop k)=true
 | [],p,k,h=>by simpa using h
 | e :: es,p,0,h=>h
 | e :: es,p,k+1,h=>by
  simp only[zIr,Bool.and_eq_true,leB,decide_eq_true_eq] at h
  rw[List.drop_succ_cons]
  exact zfE h.1.2 (zTo k h.2)
theorem zen{n:ND}{to:Int}(h:NdF n)(ht:1≤n.term)(he:∀e∈n.log,isE e)(h0:0≤to)(h1:to < n.nodes)(hn:to≠n.id):mgV n.nodes (zOc n to):=by
 have nx:=h.nx;have ms:=h.ms;have l6:=h.l6;have i0:=h.i0;have i1:=h.i1;have n5:=h.n5;have t1:=h.t1;have c0:=h.c0;have c1:=h.c1
 have hg:=zI1 h.nm (by omega) to.toNat (by omega)
 have hmo:=zKP h.en
 obtain⟨k,hk⟩:∃k:Nat,(nth n.nx to.toNat).I - 1=k:=⟨((nth n.nx to.toNat).I - 1).toNat,by omega⟩
 have hk':(nth n.nx to.toNat).I.toNat - 1=k:=by omega
 have hlt:0≤zCI n.log k∧zCI n.log k≤n.term:=by
  unfold zCI
  split
  ·omega
  ·rename_i hk0
   have:=zI5 h.en (k - 1) (by omega)
   have e:((k:Int) - 1).toNat=k - 1:=by omega
   rw[e];omega
 refine zOg (m:=⟨3,n.id,to,n.term,(nth n.nx to.toNat).I - 1,zCI n.log ((nth n.nx to.toNat).I - 1),n.com,false,n.log.drop ((nth n.nx to.toNat).I.toNat - 1)⟩) (by simp only;omega) (by simp only;omega) (by simp only;omega) n5 (by simp only;omega) (by simp only;omega) (by simp only;omega) (by simp only;omega) (by simp only;rw[hk];exact hlt) ?_ ?_
 ·rw[if_pos rfl]
  refine⟨zTo _ h.en,?_,fun hne=>?_,?_⟩
  ·simp only[List.length_drop];omega
  ·simp only[hk,hk'] at hne ⊢
   have hkl:k < n.log.length:=by
    have:(n.log.drop k).length≠0:=fun e=>hne (List.eq_nil_of_length_eq_zero e)
    rw[List.length_drop] at this;omega
   rw[zG hkl,zE]
   unfold zCI
   split
   ·have:=zI5 h.en k hkl;omega
   ·have e:((k:Int) - 1).toNat=k - 1:=by omega
    rw[e]
    exact(hmo k hkl).2 (k - 1) (by omega)
  ·simp only[hk]
   by_cases h0:k=0
   ·right;rw[h0];rfl
   ·left;omega
 ·intro x hx
  exact he x (List.mem_of_mem_drop hx)
theorem zDO{n:ND}(h:NdF n)(ht:1≤n.term)(he:∀e∈n.log,isE e):∀k:Nat,(k:Int)≤n.nodes→∀e∈zAx n k,mgV n.nodes e
 | 0,_,e,hm=>by simp[zAx] at hm
 | k+1,hk,e,hm=>by
  rw[zAx] at hm
  rcases List.mem_append.1 hm with hm | hm
  ·exact zDO h ht he k (by omega) e hm
  ·split at hm
   ·simp at hm
   ·rename_i hne
    rw[List.mem_singleton.1 hm]
    exact zen h ht he (by omega) (by omega) hne
theorem zP6{n:ND}(he:∀e∈n.log,isE e):∀e∈(zCm n).log,isE e:=by
 intro e hm
 have hm:e∈yq n.term n.log:=hm
 unfold yq at hm
 split at hm
 ·rcases List.mem_append.1 hm with hm | hm
  ·exact he e hm
  ·exact⟨_,_,List.mem_singleton.1 hm⟩
 ·exact he e hm
theorem zbW{es:List PV}(h2:∀e∈es,isE e):∀{log:List PV} {k:Nat},(∀e∈log,isE e)→∀e∈zAD log k es,isE e:=by
 induction es with
 | nil=>intro log k h e hm;exact h e hm
 | cons x es ih=>
  intro log k h e hm
  rw[zAD] at hm
  split at hm
  ·exact ih (fun e he=>h2 e (by simp[he])) h e hm
  ·rcases List.mem_append.1 hm with hm | hm
   ·exact h e (List.mem_of_mem_take hm)
   ·exact h2 e hm
theorem zfA{n:ND}{m:MG}(h:NdF n)(hm:mgB m=true)(hf:m.frm < n.nodes)(hto:m.to=n.id)(ht:m.term≤n.term)(he:∀e∈n.log,isE e)(hes:∀e∈m.es,isE e)(hN:NdF (yI n m).1) :
  (∀e∈(yI n m).1.log,isE e)∧∀e∈(yI n m).2,mgV n.nodes e:=by
 have i0:=h.i0;have i1:=h.i1;have n5:=h.n5;have t1:=h.t1;have l6:=h.l6;have n1:=h.n1
 have hM:=zTI (n:=n) hm hf
 have m1:=hM.t1;have f0:=hM.f0;have mi:=hM.i0;have mi6:=hM.i6
 have hne:m.frm≠m.to:=by
  simp only[mgB,zKn,Bool.and_eq_true,Bool.not_eq_true',decide_eq_false_iff_not] at hm
  exact hm.1.1.1.1.1.2
 unfold yI at hN ⊢
 split
 ·refine⟨?_,?_⟩
  ·show ∀e∈(zHV n m).log,isE e
   unfold zHV;split<;>exact he
  ·intro e hx
   rw[List.mem_singleton.1 hx]
   exact zOg (m:=⟨2,n.id,m.frm,n.term,0,0,0,zSn n m,[]⟩) (by simp only;omega) (by simp only;omega) (by simp only;omega) n5 (by simp only;omega) (by simp only;omega) (by simp only;omega) (by simp only;omega) (by simp only;omega) (by rw[if_neg (by simp)]) (by simp)
 ·rename_i k1
  rw[if_neg k1] at hN
  split
  ·rename_i k2
   rw[if_pos k2] at hN
   unfold zE2 at hN ⊢
   split
   ·exact⟨he,by simp⟩
   ·rename_i g1
    rw[if_neg g1] at hN
    split
    ·rename_i g2
     rw[if_pos g2] at hN
     have hE:=zP6 (n:={ n with vs:=zFN m.frm n.vs }) he
     exact⟨hE,zDO hN (by show 1≤n.term;omega) hE _ (by show(n.nodes.toNat:Int)≤n.nodes;omega)⟩
    ·exact⟨he,by simp⟩
  ·rename_i k2
   rw[if_neg k2] at hN
   split
   ·rename_i k3
    have hF:(zAW n m).log=n.log∧(zAW n m).id=n.id∧(zAW n m).term=n.term:=by unfold zAW;split<;>exact⟨rfl,rfl,rfl⟩
    have hlog:∀e∈(zBQ n m).1.log,isE e:=by
     unfold zBQ
     cases zDX n m with
     | true=>exact fun e hx=>he e (by rw[←hF.1];exact hx)
     | false=>exact zbW hes (by rw[hF.1];exact he)
    have hix:0≤(zBQ n m).2.1∧(zBQ n m).2.1≤60:=by
     have hle:(m.es.length:Int)≤60 - m.idx:=by
      have hk:(m.kind == 3)=true:=by rw[k3];rfl
      simp only[mgB,hk,cond_true,zY5,Bool.and_eq_true,leB,decide_eq_true_eq] at hm
      exact hm.2.1.1.2
     unfold zBQ
     cases zDX n m with
     | true=>show 0≤mxI 0 (mnI n.log.length (m.idx - 1))∧mxI 0 (mnI n.log.length (m.idx - 1))≤60;unfold mxI mnI;split<;>split<;>omega
     | false=>show 0≤m.idx+m.es.length∧m.idx+m.es.length≤60;omega
    refine⟨hlog,fun e hx=>?_⟩
    rw[List.mem_singleton.1 hx]
    exact zOg (m:=⟨4,n.id,m.frm,n.term,(zBQ n m).2.1,0,0,(zBQ n m).2.2,[]⟩) (by simp only;omega) (by simp only;omega) (by simp only;omega) n5 (by simp only;omega) (by simp only;omega) hix (by simp only;omega) (by simp only;omega) (by rw[if_neg (by simp)]) (by simp)
   ·rename_i k3
    rw[if_neg k3] at hN
    unfold zKi at hN ⊢
    split
    ·exact⟨he,by simp⟩
    ·rename_i g1
     rw[if_neg g1] at hN
     split
     ·exact⟨he,by simp⟩
     ·rename_i g2
      rw[if_neg g2] at hN
      refine⟨he,fun e hx=>?_⟩
      rw[List.mem_singleton.1 hx]
      exact zen hN (by show 1≤n.term;omega) he f0 (by show m.frm < n.nodes;omega) (by show m.frm≠n.id;omega)
end
section
variable [zS]
structure NdI (cnt:Int) (i:Nat) (x:ND) (b:List UInt8):Prop where
 F:NdF x
 id:x.id=i
 nds:x.nodes=cnt
 e:∀a∈x.log,isE a
 l:b.length≤60000
 h:zGk b (zD0 x)
structure ClI (c:CL):Prop where
 n1:1≤c.ns.length
 n5:c.ns.length≤5
 sl:c.ss.length=c.ns.length
 nd:∀i,i < c.ns.length→∃x b,nth c.ns i=x.pv∧nth c.ss i=sto b b.length∧NdI c.ns.length i x b
 wl:c.ws.length≤60
 wm:∀e∈c.ws,mgV c.ns.length e
 dl:c.ds.length≤60
 dm:∀e∈c.ds,∃d,e=.str d∧d.length≤400
def RtI(c:CL):Prop:=∀i,i < c.ns.length→(yH c.ns i).role≠0→1≤(yH c.ns i).term
theorem zWG{x:ND}(h:NdF x):(zD0 x).ok=true:=by
 have:=h.vt
 exact ST.mk_ok (s:=zD0 x) h.t0 h.t1 this.1 this.2.1 h.en h.l6
theorem ClI.at{c:CL}(h:ClI c){i:Nat}(hi:i < c.ns.length):nth c.ns i=(yH c.ns i).pv∧nth c.ss i=sto (zKD c.ss i) (zKD c.ss i).length∧zQx c.ss i=(zKD c.ss i).length∧NdI c.ns.length i (yH c.ns i) (zKD c.ss i):=by
 obtain⟨x,b,h1,h2,h3⟩:=h.nd i hi
 have e1:yH c.ns i=x:=by rw[yH,h1];rfl
 have e2:zKD c.ss i=b:=by rw[zKD,h2];rfl
 have e3:zQx c.ss i=b.length:=by rw[zQx,h2];rfl
 rw[e1,e2,e3]
 exact⟨h1,h2,rfl,h3⟩
theorem zDf{l:List PV}{i j:Nat}{x:PV}(h:i≠j):nth (l.set i x) j=nth l j:=by
 simp[nth,List.getElem?_set_ne h]
theorem zDG{l:List PV}{i:Nat}{x:PV}(h:i < l.length):nth (l.set i x) i=x:=by
 simp[nth,List.getElem?_set_self h]
theorem ClI.put{c:CL}(h:ClI c){i:Nat}(hi:i < c.ns.length){x:ND}{b:List UInt8}(hx:NdI c.ns.length i x b){ws ds:List PV}(wl:ws.length≤60)(wm:∀e∈ws,mgV c.ns.length e)(dl:ds.length≤60)(dm:∀e∈ds,∃d,e=.str d∧d.length≤400) :
  ClI ⟨c.ns.set i x.pv,c.ss.set i (sto b b.length),ws,ds⟩:=by
 refine⟨by simpa using h.n1,by simpa using h.n5,by simpa using h.sl,fun j hj=>?_,wl,by simpa using wm,dl,dm⟩
 have hj':j < c.ns.length:=by simpa using hj
 have hL:((c.ns.set i x.pv).length:Int)=c.ns.length:=by simp
 simp only[hL]
 by_cases e:i=j
 ·subst e
  exact⟨x,b,zDG hi,zDG (by rw[h.sl];exact hi),hx⟩
 ·obtain⟨y,d,h1,h2,h3⟩:=h.nd j hj'
  exact⟨y,d,by simp only[zDf e,h1],by simp only[zDf e,h2],h3⟩
theorem RtI.put{c:CL}(h:RtI c){i:Nat}(hi:i < c.ns.length){x:ND}(hx:x.role≠0→1≤x.term){ss ws ds:List PV}:RtI ⟨c.ns.set i x.pv,ss,ws,ds⟩:=by
 intro j hj hr
 have hj':j < c.ns.length:=by simpa using hj
 by_cases e:i=j
 ·subst e
  have:yH (c.ns.set i x.pv) i=x:=by rw[yH,zDG hi];rfl
  simp only[this] at hr ⊢
  exact hx hr
 ·have:yH (c.ns.set i x.pv) j=yH c.ns j:=by rw[yH,yH,zDf e]
  simp only[this] at hr ⊢
  exact h j hj' hr
theorem zb9{cnt:Int}{ws sent:List PV}(h1:ws.length≤60)(h2:∀e∈ws,mgV cnt e)(h3:∀e∈sent,mgV cnt e):(zLn ws sent).length≤60∧∀e∈zLn ws sent,mgV cnt e:=by
 refine⟨by rw[zLn,List.length_append,List.length_take];omega,fun e he=>?_⟩
 rcases List.mem_append.1 he with he | he
 ·exact h2 e he
 ·exact h3 e (List.mem_of_mem_take he)
theorem zcA{ds log:List PV}{com t:Int}(h1:ds.length≤60)(h2:∀e∈ds,∃d,e=PV.str d∧d.length≤400)(h3:log.length≤60)(h4:zIr t 0 log=true):(zFi ds log com).length≤60∧∀e∈zFi ds log com,∃d,e=PV.str d∧d.length≤400:=by
 refine⟨by rw[zFi,List.length_append,List.length_map,List.length_drop,List.length_take];omega,fun e he=>?_⟩
 rcases List.mem_append.1 he with he | he
 ·exact h2 e he
 ·obtain⟨x,hx,rfl⟩:=List.mem_map.1 he
  have:=zGR h4 x (List.mem_of_mem_take (List.mem_of_mem_drop hx))
  exact⟨_,rfl,this.1⟩
theorem upd_I{c:CL}(h:ClI c){i:Nat}(hi:i < c.ns.length){x:ND}{sent:List PV}(hF:NdF x)(hid:x.id=i)(hn:x.nodes=c.ns.length)(he:∀a∈x.log,isE a)(ht:(yH c.ns i).term≤x.term)(hs:∀e∈sent,mgV c.ns.length e):ClI (zKm c x sent).1:=by
 obtain⟨a1,a2,a3,a4⟩:=h.at hi
 have e0:x.id.toNat=i:=by rw[hid,Int.toNat_natCast]
 unfold zKm
 rw[e0]
 split
 ·rename_i hw
  obtain⟨w1,w2⟩:=zPO hw
  obtain⟨q1,q2⟩:=zb9 h.wl h.wm hs
  obtain⟨q3,q4⟩:=zcA (com:=x.com) h.dl h.dm hF.l6 hF.en
  rw[w1]
  refine h.put hi ⟨hF,hid,hn,he,w2 a4.l,?_⟩ q1 q2 q3 q4
  obtain⟨s,s1,s2,s3,s4⟩:=zXS (zWG a4.F) (zWG hF) ht a4.e he (zBR (zD0 (yH c.ns i)) (zD0 x)).length
  rw[List.take_length] at s1
  have:=s4 (Nat.le_refl _)
  subst this
  exact zTg a4.h (fun e hm=>by obtain⟨d,p1,p2,p3⟩:=zVT (a:=zD0 (yH c.ns i)) (zWG hF) e hm;exact⟨d,p1,p2,by omega⟩) s1
 ·exact h
theorem zQw{c:CL}(h:RtI c){i:Nat}(hi:i < c.ns.length){x:ND}{sent:List PV}(hid:x.id=i)(hx:x.role≠0→1≤x.term):RtI (zKm c x sent).1:=by
 have e0:x.id.toNat=i:=by rw[hid,Int.toNat_natCast]
 unfold zKm
 rw[e0]
 split
 ·exact h.put hi hx
 ·exact h
theorem zNx{c:CL}{x:ND}{sent:List PV}:(zKm c x sent).1.ns.length=c.ns.length:=by
 unfold zKm;split<;>simp
theorem zWo{i cnt:Nat}{s:ST}(h:s.ok=true)(hi:i < cnt)(h5:cnt≤5)(hv:s.v < cnt):NdF (zQs i cnt s):=by
 obtain⟨f1,f2,f3,f4⟩:=ST.facts h
 refine⟨by show 1≤(cnt:Int);omega,by show(cnt:Int)≤5;omega,by show 0≤(i:Int);omega,by show(i:Int)≤cnt - 1;omega,f1.1,f1.2,f3,f4,by show(0:Int)≤0;decide,by show(0:Int)≤2;decide,.inr rfl,by show(0:Int)≤0;decide,by show(0:Int)≤(s.log.length:Int);omega,by show(0:Int)≤0;decide,by show(0:Int)≤1000;decide,
  by show 5≤5+(i:Int);omega,by show 5+(i:Int)≤100;omega,?_,?_,rfl,zXo (by show(0:Int)≤(s.log.length:Int);omega) _,⟨f2.1,f2.2,hv⟩⟩
 ·show((List.replicate ((cnt:Int)).toNat (PV.int .i64 1)).length:Int)=cnt
  rw[List.length_replicate];omega
 ·show((List.replicate ((cnt:Int)).toNat (PV.int .i64 0)).length:Int)=cnt
  rw[List.length_replicate];omega
theorem mid_v{a b s:ST}(h:zWS a b s){k:Int}(ha:a.v < k)(hb:b.v < k):s.v < k:=by
 rcases h with rfl | ⟨_,h,_⟩
 ·exact ha
 ·rw[h];exact hb
theorem mid_e{a b s:ST}(h:zWS a b s)(ha:∀e∈a.log,isE e)(hb:∀e∈b.log,isE e):∀e∈s.log,isE e:=by
 rcases h with rfl | ⟨_,_,h | ⟨i,_,_,h⟩⟩
 ·exact ha
 ·rw[h];exact ha
 ·rw[h];exact fun e he=>hb e (List.mem_of_mem_take he)
theorem zOL(l m:Nat)(keep:Int):∃n,n≤m∧zU2 ((l+m:Nat):Int) l keep=l+n:=by
 refine⟨(mxI 0 (mnI keep (((l+m:Nat):Int) - l))).toNat,?_,?_⟩
 ·unfold mxI mnI;split<;>split<;>omega
 ·unfold zU2
  have:0≤mxI 0 (mnI keep (((l+m:Nat):Int) - l)):=by unfold mxI;split<;>omega
  omega
theorem zPm{b:List UInt8}{s:ST}(h:zGk b s)(keep:Int):yP (b.take (zU2 b.length b.length keep))=(s,(b,(b.length:Int)),0):=by
 obtain⟨n,h1,h2⟩:=zOL b.length 0 keep
 have:n=0:=by omega
 subst this
 simp only[Nat.add_zero] at h2
 rw[h2,List.take_length,zTf h]
structure zdj (c:CL) (i:Nat) (b:List UInt8) (sure keep:Int) (s:ST) (b':List UInt8):Prop where
 r:yP (b.take (zU2 b.length sure keep))=(s,(b',(b'.length:Int)),0)
 ok:s.ok=true
 v:s.v < c.ns.length
 e:∀a∈s.log,isE a
 l:b'.length≤60000
 h:zGk b' s
theorem zL4{c:CL}(h:ClI c){i:Nat}(hi:i < c.ns.length)(keep:Int):zdj c i (zKD c.ss i) (zQx c.ss i) keep (zD0 (yH c.ns i)) (zKD c.ss i):=by
 obtain⟨a1,a2,a3,a4⟩:=h.at hi
 have hv:=a4.F.vt.2.2
 rw[a4.nds] at hv
 exact⟨by rw[a3];exact zPm a4.h keep,zWG a4.F,hv,a4.e,a4.l,a4.h⟩
theorem zRh{c:CL}(h:ClI c){i:Nat}(hi:i < c.ns.length){x:ND}(hF:NdF x)(hn:x.nodes=c.ns.length)(he:∀a∈x.log,isE a)(ht:(yH c.ns i).term≤x.term)(keep:Int)(hw:(zIt (zKD c.ss i) (zBR (zD0 (yH c.ns i)) (zD0 x))).2=true) :
  ∃s b' j,zdj c i (zIt (zKD c.ss i) (zBR (zD0 (yH c.ns i)) (zD0 x))).1 (zQx c.ss i) keep s b'∧zWS (zD0 (yH c.ns i)) (zD0 x) s∧zBK (zD0 (yH c.ns i)) ((zBR (zD0 (yH c.ns i)) (zD0 x)).take j)=(s,true):=by
 obtain⟨a1,a2,a3,a4⟩:=h.at hi
 obtain⟨w1,w2⟩:=zPO hw
 have w3:=w2 a4.l
 obtain⟨n,n1,n2⟩:=zOL (zKD c.ss i).length (zLq (zBR (zD0 (yH c.ns i)) (zD0 x))).length keep
 obtain⟨s,j,r1,r2,r3,r4,r5,r6⟩:=zYj a4.h (zWG a4.F) (zWG hF) ht a4.e he n1
 have hv:=a4.F.vt.2.2
 have hv2:=hF.vt.2.2
 rw[a4.nds] at hv
 rw[hn] at hv2
 refine⟨s,_,j,⟨?_,r3,mid_v r4 hv hv2,mid_e r4 a4.e he,?_,r2⟩,r4,r6⟩
 ·have e1:((zKD c.ss i++zLq (zBR (zD0 (yH c.ns i)) (zD0 x))).length:Int)=(((zKD c.ss i).length+(zLq (zBR (zD0 (yH c.ns i)) (zD0 x))).length:Nat):Int):=by rw[List.length_append]
  rw[w1,a3,e1,n2,List.take_append,List.take_of_length_le (by omega),Nat.add_sub_cancel_left,r1]
 ·rw[List.length_append] at w3;omega
theorem zQ7{c:CL}(h:ClI c){i:Nat}(hi:i < c.ns.length){b b':List UInt8}{sure keep:Int}{s:ST}(hD:zdj c i b sure keep s b'):ClI (zPD c i b sure keep):=by
 unfold zPD
 rw[hD.r,Int.toNat_natCast]
 exact h.put hi ⟨zWo hD.ok hi h.n5 hD.v,rfl,rfl,hD.e,hD.l,hD.h⟩ h.wl h.wm h.dl h.dm
theorem zQ6{c:CL}(h:RtI c){i:Nat}(hi:i < c.ns.length){b:List UInt8}{sure keep:Int}:RtI (zPD c i b sure keep):=by
 unfold zPD
 rw[Int.toNat_natCast]
 exact h.put hi fun h0=>absurd rfl h0
theorem zOK{c:CL}{i:Int}{b:List UInt8}{sure keep:Int}:(zPD c i b sure keep).ns.length=c.ns.length:=by simp[zPD]
structure TkI (cnt:Int) (n:ND) (i:Int) (r:ND × List PV × Int):Prop where
 F:NdF r.1
 id:r.1.id=i
 nd:r.1.nodes=cnt
 e:∀a∈r.1.log,isE a
 t:n.term≤r.1.term
 s:∀a∈r.2.1,mgV cnt a
 rt:(n.role≠0→1≤n.term)→r.1.role≠0→1≤r.1.term
 st:Stp n r.1 1000
theorem new_E{n:ND}{t:Int}(h:∀a∈n.log,isE a):∀a∈(zCD n t).log,isE a:=by
 unfold zCD;split<;>exact h
theorem zTH{n:ND}{t:Int}:(zCD n t).term=mxI n.term t∧(zCD n t).id=n.id∧(zCD n t).nodes=n.nodes∧(zCD n t).com=n.com:=by
 unfold zCD mxI
 split<;>exact⟨rfl,rfl,rfl,rfl⟩
theorem zKh{m:MG}(hm:mgB m=true):m.frm≠m.to∧0≤m.to:=by
 simp only[mgB,zKn,Bool.and_eq_true,zk,Bool.not_eq_true',decide_eq_false_iff_not] at hm
 exact⟨hm.1.1.1.1.1.2,hm.1.1.1.1.1.1.2.1⟩
theorem za5{cnt:Int}{i:Nat}{n:ND}{b:List UInt8}(a4:NdI cnt i n b){m:MG}(hm:mgB m=true)(h1:m.frm < cnt)(h2:m.to=i)(he:∀a∈m.es,isE a)(hr:(zKe n m).2.2=0):TkI cnt n i (zKe n m) ∧
  zKe n m=((yI (zCD n m.term) m).1,(yI (zCD n m.term) m).2,0)∧n.up=true:=by
 have nds:=a4.nds
 have aid:=a4.id
 have hM:=zTI (n:=n) hm (by omega)
 have hN:=zPx (t:=m.term) a4.F hM.tM
 obtain⟨t1,t2,t3,t4⟩:=zTH (n:=n) (t:=m.term)
 have hT1:n.term≤(zCD n m.term).term∧m.term≤(zCD n m.term).term:=by rw[t1];unfold mxI;split<;>omega
 unfold zKe at hr ⊢
 cases c1:(zB9 n&&mgB m) with
 | false=>rw[c1] at hr;simp at hr
 | true=>
  rw[c1] at hr
  simp only[cond_true] at hr ⊢
  cases c2:(decide (m.to=n.id)&&decide (m.frm < n.nodes)) with
  | false=>rw[c2] at hr;simp at hr
  | true=>
   rw[c2] at hr
   simp only[cond_true] at hr ⊢
   cases c3:n.up with
   | false=>rw[c3] at hr;simp at hr
   | true=>
    rw[c3] at hr
    simp only[cond_true] at hr ⊢
    cases c4:zB9 (yI (zCD n m.term) m).1 with
    | false=>rw[c4] at hr;simp at hr
    | true=>
     simp only[cond_true,and_true]
     have hG:=zH6 c4
     have hV:=zfA hN hm (by rw[t3];omega) (by rw[t2];omega) hT1.2 (new_E a4.e) he hG
     have m1:=hM.t1
     have mM:=hM.tM
     have hS:=(new_S (n:=n) (t:=m.term) (k:=1000) (by omega) (by have:=a4.F.t0;omega)).trans (zfB (n:=zCD n m.term) (m:=m) hN.c0 m1)
     have d1:=hS.nd
     have d2:=hS.i
     refine⟨hG,by rw[d2];omega,by rw[d1];omega,hV.1,hS.t0,fun a ha=>?_,hS.rt,hS.mono (l:=1000) (by decide)⟩
     have:=hV.2 a ha
     rw[t3,nds] at this
     exact this
theorem zJF{c:CL}(h:ClI c){i:Nat}(hi:i < c.ns.length){r:ND × List PV × Int}(hT:TkI c.ns.length (yH c.ns i) i r):ClI (zKm c r.1 r.2.1).1:=
 upd_I h hi hT.F hT.id hT.nd hT.e hT.t hT.s
theorem ClI.ws{c:CL}(h:ClI c){ws:List PV}(wl:ws.length≤60)(wm:∀e∈ws,mgV c.ns.length e):ClI { c with ws:=ws }:=
 ⟨h.n1,h.n5,h.sl,h.nd,wl,wm,h.dl,h.dm⟩
theorem zeW{c:CL}(h:ClI c)(a:CA){i:Nat}(hi:i < c.ns.length){r:ND × List PV × Int}(hT:r.2.2=0→TkI c.ns.length (yH c.ns i) i r):ClI (zHE c a r).1∧(RtI c→RtI (zHE c a r).1)∧(zHE c a r).1.ns.length=c.ns.length:=by
 unfold zHE
 split
 ·exact⟨h,fun hR=>hR,rfl⟩
 ·rename_i hr
  have hT:=hT (Decidable.byContradiction hr)
  have e0:r.1.id.toNat=i:=by rw[hT.id,Int.toNat_natCast]
  split
  ·exact⟨zJF h hi hT,fun hR=>zQw hR hi hT.id (hT.rt (hR i hi)),zNx⟩
  ·rw[e0,hT.id]
   split
   ·rename_i hw
    obtain⟨s,b',_,hD,_⟩:=zRh h hi hT.F hT.nd hT.e hT.t a.keep hw
    exact⟨zQ7 h hi hD,fun hR=>zQ6 hR hi,zOK⟩
   ·exact⟨h,fun hR=>hR,rfl⟩
theorem zSu{c:CL}(h:ClI c)(a:CA):ClI (zKp c a).1∧(RtI c→RtI (zKp c a).1)∧(zKp c a).1.ns.length=c.ns.length:=by
 unfold zKp
 split
 ·exact⟨h,fun hR=>hR,rfl⟩
 ·rename_i hn
  have hn:=zk.1 (show inB a.n 0 (c.ws.length - 1)=true by simpa using hn)
  have hlt:a.n.toNat < c.ws.length:=by omega
  have hmem:=zb hlt
  split
  ·split
   ·exact⟨h,fun hR=>hR,rfl⟩
   ·rename_i hl
    have:=h.wl
    refine⟨h.ws (by rw[List.length_append];simp;omega) fun e he=>?_,fun hR=>hR,rfl⟩
    rcases List.mem_append.1 he with he | he
    ·exact h.wm e he
    ·rw[List.mem_singleton.1 he];exact h.wm _ hmem
  ·have hE:ClI { c with ws:=c.ws.eraseIdx a.n.toNat }:=h.ws (by have:=List.length_eraseIdx_le c.ws a.n.toNat;have:=h.wl;omega) fun e he=>h.wm e (List.mem_of_mem_eraseIdx he)
   obtain⟨m,m1,m2,m3,m4,m5⟩:=h.wm _ hmem
   rw[m1,zMS]
   unfold zL9
   split
   ·exact⟨hE,fun hR=>hR,rfl⟩
   ·obtain⟨i,hi⟩:∃i:Nat,m.to=i:=⟨m.to.toNat,by have:=(zKh m2).2;omega⟩
    have hil:i < c.ns.length:=by omega
    rw[hi,Int.toNat_natCast]
    obtain⟨_,_,_,a4⟩:=h.at hil
    have:=zeW hE a (i:=i) hil (r:=zKe (yH c.ns i) m) fun hr=>(za5 a4 m2 m3 hi m5 hr).1
    exact⟨this.1,fun hR=>this.2.1 hR,this.2.2⟩
end
section
variable [zS]
def zFs(p:List PV):CL:=⟨(nth p 0).L,(nth p 1).L,(nth p 2).L,(nth p 3).L⟩
def CL.pv(c:CL):PV:=.agg [.list c.ns,.list c.ss,.list c.ws,.list c.ds]
def zDb(p:List PV):CA:=⟨(nth p 0).I,(nth p 1).I,(nth p 2).I,(nth p 3).I,(nth p 4).S⟩
theorem zUH{x:ND}(h:NdF x)(he:∀e∈x.log,isE e):(zD0 x).wk:=by
 have t0:=h.t0;have t1:=h.t1;have vt:=h.vt;have l6:=h.l6
 refine⟨⟨t0,by show x.term≤2000;omega⟩,⟨vt.1,by show x.vote≤100;omega⟩,by show x.log.length≤100;omega,fun e hm=>?_⟩
 have:=zGR h.en e hm
 exact⟨he e hm,⟨by omega,by omega⟩,by omega⟩
theorem zO4{a b:ST}(hb:b.wk):∀e∈zBR a b,e.S.length≤900000:=by
 intro e he
 rw[zBR] at he
 rcases List.mem_append.1 he with he | he
 ·unfold zIp at he
  split at he
  ·simp at he
  ·rw[List.mem_singleton.1 he,zEW,zVU,zEn,zCF];simp
 rcases List.mem_append.1 he with he | he
 ·unfold zJK at he
  split at he
  ·rw[List.mem_singleton.1 he,zEW,zVV,zEn,zCF];simp
  ·simp at he
 ·obtain⟨x,hx,rfl⟩:=List.mem_map.1 he
  have:=(hb.2.2.2 x (List.mem_of_mem_drop hx)).2.2
  rw[zEW,zPj,zHc,zCF]
  simp;omega
structure UpP (c:CL) (x:ND):Prop where
 i0:0≤x.id
 i1:x.id.toNat < c.ns.length
 n5:c.ns.length≤5
 sl:c.ss.length=c.ns.length
 sb:(zKD c.ss x.id.toNat).length≤60000
 wa:(zD0 (yH c.ns x.id.toNat)).wk
 wx:(zD0 x).wk
 com:x.com≤x.log.length
 wl:c.ws.length≤60
 dl:c.ds.length≤60
theorem ClI.upP{c:CL}(h:ClI c){i:Nat}(hi:i < c.ns.length){x:ND}(hid:x.id=i)(hx:(zD0 x).wk)(hc:x.com≤x.log.length):UpP c x:=by
 obtain⟨a1,a2,a3,a4⟩:=h.at hi
 have e:x.id.toNat=i:=by omega
 exact⟨by omega,by omega,h.n5,h.sl,by rw[e];exact a4.l,by rw[e];exact zUH a4.F a4.e,hx,hc,h.wl,h.dl⟩
theorem zeb{n:ND}{d:Int}(he:∀e∈n.log,isE e):∀e∈(zBD n d).1.log,isE e:=by
 unfold zBD
 split
 ·split<;>exact he
 ·split
  ·exact he
  ·unfold zEH
   split
   ·exact zP6 (n:=zBf n d) he
   ·exact he
theorem ClI.at_tk{c:CL}(h:ClI c){e:PV}(he:e∈c.ws):∃i:Nat,i < c.ns.length∧(nth e.A 2).I=i∧(nth e.A 8).L.length≤60∧0≤(nth e.A 2).I∧(nth e.A 2).I < c.ns.length:=by
 obtain⟨m,rfl,m2,m3,m4,m5⟩:=h.wm e he
 have:=(zKh m2).2
 have hl:m.es.length≤60:=by
  simp only[mgB,Bool.and_eq_true] at m2
  have h2:=m2.2
  cases hk:(m.kind == 3) with
  | true=>
   rw[hk,cond_true] at h2
   simp only[zY5,zKl,Bool.and_eq_true,leB,decide_eq_true_eq] at h2
   omega
  | false=>
   rw[hk,cond_false] at h2
   simp at h2
   simp[h2]
 exact⟨m.to.toNat,by omega,by show m.to=_;omega,hl,this,m4⟩
theorem ClI.nt_U{c:CL}(h:ClI c){i:Nat}(hi:i < c.ns.length){d:Int}(hr:(zJY (yH c.ns i) d).2.2=0):UpP c (zJY (yH c.ns i) d).1:=by
 obtain⟨a1,a2,a3,a4⟩:=h.at hi
 have hN:=zIo a4.F
 unfold zJY at hr ⊢
 rw[hN] at hr ⊢
 simp only[cond_true] at hr ⊢
 cases c2:inB d 0 1000000 with
 | false=>rw[c2] at hr;simp at hr
 | true=>
  rw[c2] at hr
  simp only[cond_true] at hr ⊢
  have hd:=zk.1 c2
  cases c3:(yH c.ns i).up with
  | false=>rw[c3] at hr;simp at hr
  | true=>
   simp only[cond_true]
   have hF:=zPS (d:=d) a4.F hd.1 c3
   have hS:=zRH (d:=d) a4.F
   exact h.upP hi (by rw[hS.i];exact a4.id) (zUH hF (zeb a4.e)) hF.c1
theorem ClI.pp_U{c:CL}(h:ClI c){i:Nat}(hi:i < c.ns.length){d:List UInt8}(hr:(zJX (yH c.ns i) d).2.2=0):UpP c (zJX (yH c.ns i) d).1:=by
 obtain⟨a1,a2,a3,a4⟩:=h.at hi
 have hN:=zIo a4.F
 unfold zJX at hr ⊢
 split at hr
 ·simp at hr
 ·rename_i hl
  rw[if_neg hl]
  rw[hN] at hr ⊢
  simp only[cond_true] at hr ⊢
  cases c2:inB d.length 1 400 with
  | false=>rw[c2] at hr;simp at hr
  | true=>
   rw[c2] at hr
   simp only[cond_true] at hr ⊢
   have hd:=zk.1 c2
   unfold zHG at hr ⊢
   split at hr
   ·simp at hr
   ·rename_i c3
    rw[if_neg c3]
    split at hr
    ·simp at hr
    ·rename_i c4
     rw[if_neg c4]
     split at hr
     ·simp at hr
     ·rename_i c5
      rw[if_neg c5]
      have l6:=a4.F.l6
      have hw:=zUH a4.F a4.e
      have hc:=(zFh (zAe (yH c.ns i) d) a4.F.c0 ((yH c.ns i).log.length+1)).2
      have c1:=a4.F.c1
      have hcl:(zAe (yH c.ns i) d).com=(yH c.ns i).com:=rfl
      have hll:((yG (yH c.ns i) d).log.length:Int)=(yH c.ns i).log.length+1:=by
       show(((yH c.ns i).log++[_]).length:Int)=_
       simp
      refine h.upP hi a4.id ⟨hw.1,hw.2.1,?_,fun e he=>?_⟩ ?_
      ·show((yH c.ns i).log++[_]).length≤100
       rw[List.length_append];simp;omega
      ·rcases List.mem_append.1 (show e∈(yH c.ns i).log++[PV.agg [.int .i64 (yH c.ns i).term,.str d]] from he) with he | he
       ·exact hw.2.2.2 e he
       ·rw[List.mem_singleton.1 he]
        refine⟨⟨_,_,rfl⟩,hw.1,?_⟩
        show d.length≤1000
        omega
      ·show zGi (zAe (yH c.ns i) d) ((yH c.ns i).log.length+1)≤((yG (yH c.ns i) d).log.length:Int)
       rw[hll];omega
theorem ClI.tk_U{c:CL}(h:ClI c){m:MG}{i:Nat}(hi:i < c.ns.length)(hm:mgB m=true)(h1:m.frm < c.ns.length)(h2:m.to=i)(he:∀a∈m.es,isE a)(hr:(zKe (yH c.ns i) m).2.2=0):UpP c (zKe (yH c.ns i) m).1:=by
 obtain⟨a1,a2,a3,a4⟩:=h.at hi
 have:=(za5 a4 hm h1 h2 he hr).1
 exact h.upP hi this.id (zUH this.F this.e) this.F.c1
structure DnP (c:CL) (id:Int) (b:List UInt8) (sure:Int):Prop where
 i0:0≤id
 i1:id.toNat < c.ns.length
 n5:c.ns.length≤5
 sl:c.ss.length=c.ns.length
 bl:b.length≤60000
 s0:0≤sure
 s1:sure≤b.length
end
section
variable [zS]
structure ClT (c:CL):Prop where
 n:∀e∈c.ns,∃x:ND,e=x.pv∧∀a∈x.log,isE a
 s:∀e∈c.ss,∃b n,e=sto b n
 m:∀e∈c.ws,∃m:MG,e=m.pv∧∀a∈m.es,isE a
 d:∀e∈c.ds,∃d,e=.str d
end
section
variable [zS]
def zWR(e:PV):Prop:=(nth e.A 6).L.length≤5000∧(nth e.A 10).L.length≤5000∧(nth e.A 11).L.length≤5000∧(nth e.A 12).L.length≤5000
structure Sm (c:CL):Prop where
 nl:c.ns.length≤5000
 n:∀e∈c.ns,zWR e
 sl:c.ss.length≤5000
 wl:c.ws.length≤5000
 w:∀e∈c.ws,(nth e.A 8).L.length≤5000
 dl:c.ds.length≤5000
theorem ClI.es{c:CL}(h:ClI c){e:PV}(he:e∈c.ws):(nth e.A 8).L.length≤5000:=by
 obtain⟨_,_,_,h3,_,_⟩:=h.at_tk he
 omega
end
end Go.Proofs.YthogljppoiekaaaGreat
