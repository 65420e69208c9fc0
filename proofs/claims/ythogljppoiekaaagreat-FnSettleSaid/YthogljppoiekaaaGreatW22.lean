/-
  Part 22: contracts of functions, and the laws by which they are proved.
  Conditions: none.
-/
import Derived.Test.YthogljppoiekaaaGreatW19
import Derived.Test.YthogljppoiekaaaGreatW21
set_option linter.unusedVariables false
set_option linter.unusedSimpArgs false
set_option linter.unusedSectionVars false
set_option maxRecDepth 100000
namespace Go.Proofs.YthogljppoiekaaaGreat
section
variable [zS]
def zCD(n:ND)(t:Int):ND:=if n.term < t then { zGv n with term:=t,vote:=-1 } else n
def zSn(n:ND)(m:MG):Bool:=decide (m.term=n.term)&&(decide (n.vote=-1) || decide (n.vote=m.frm))&&zWC n.log m.idx m.lt
def zHV(n:ND)(m:MG):ND:=if zSn n m=true then { n with vote:=m.frm,ela:=0 } else n
def zY4(n:ND)(m:MG):PV:=.agg [.int .i64 2,.int .i64 n.id,.int .i64 m.frm,.int .i64 n.term,.int .i64 0,.int .i64 0,.int .i64 0,.bool (zSn n m),.list []]
def zFN(x:Int)(es:List PV):List PV:=if zQr x es=true then es else es.take (zIq x es)++[.int .i64 x]++es.drop (zIq x es)
def zE2(n:ND)(m:MG):ND × List PV:=
 if n.role≠1∨m.term≠n.term∨m.ok=false then (n,[])
 else if n.nodes < 2*(zFN m.frm n.vs).length then (zCm { n with vs:=zFN m.frm n.vs },zAx (zCm { n with vs:=zFN m.frm n.vs }) n.nodes.toNat)
 else ({ n with vs:=zFN m.frm n.vs },[])
def ackM(n:ND)(m:MG):ND:={ n with ms:=n.ms.set m.frm.toNat (.int .i64 (mxI (nth n.ms m.frm.toNat).I (mnI m.idx n.log.length))) }
def zOV(n:ND)(m:MG):ND:={ ackM n m with nx:=n.nx.set m.frm.toNat (.int .i64 (mxI (nth n.nx m.frm.toNat).I ((nth (ackM n m).ms m.frm.toNat).I+1))) }
def zPy(n:ND)(m:MG):ND:={ n with nx:=n.nx.set m.frm.toNat (.int .i64 (mxI ((nth n.ms m.frm.toNat).I+1) (mnI ((nth n.nx m.frm.toNat).I - 1) (m.idx+1)))) }
def zKi(n:ND)(m:MG):ND × List PV:=
 if n.role≠2∨m.term≠n.term then (n,[])
 else if m.ok=true then ({ zOV n m with com:=zGi (zOV n m) n.log.length },[])
 else (zPy n m,[zOc (zPy n m) m.frm])
def yI(n:ND)(m:MG):ND × List PV:=
 if m.kind=1 then (zHV n m,[zY4 n m]) else if m.kind=2 then zE2 n m
 else if m.kind=3 then ((zBQ n m).1,[zM5 n m (zBQ n m).2.1 (zBQ n m).2.2]) else zKi n m
structure MgF (n:ND) (m:MG):Prop where
 k1:1≤m.kind
 k4:m.kind≤4
 f0:0≤m.frm
 f1:m.frm < n.nodes
 t1:1≤m.term
 tM:m.term≤1000
 i0:0≤m.idx
 i6:m.idx≤60
 c0:0≤m.com
 c6:m.com≤60
 es:m.es.length≤60
theorem zSa{t t':Int}(h:t≤t'):∀{es:List PV} {p:Int},zIr t p es=true→zIr t' p es=true
 | [],p,_=>rfl
 | e :: es,p,he=>by
  simp only[zIr,Bool.and_eq_true,inB,decide_eq_true_eq] at he ⊢
  exact⟨⟨⟨he.1.1.1,by omega,by omega⟩,he.1.2⟩,zSa h he.2⟩
theorem zXo{l:Int}(hl:0≤l):∀n:Nat,nmB l (List.replicate n (.int .i64 1)) (List.replicate n (.int .i64 0))=true
 | 0=>rfl
 | n+1=>by
  have h1:inB 1 1 (l+1)=true:=by simp[inB];omega
  have h2:inB 0 0 (1 - 1)=true:=by decide
  rw[List.replicate_succ,List.replicate_succ,nmB,zXo hl n]
  show(inB 1 1 (l+1)&&inB 0 0 (1 - 1)&&true)=true
  rw[h1,h2];rfl
theorem zaf{n n':Int}(h:n≤n'):∀{es:List PV} {p:Int},voB n p es=true→voB n' p es=true
 | [],p,_=>rfl
 | e :: es,p,he=>by
  simp only[voB,Bool.and_eq_true,inB,decide_eq_true_eq] at he ⊢
  exact⟨⟨⟨he.1.1.1,by omega⟩,he.1.2⟩,zaf h he.2⟩
theorem zJD{n:Int}:∀{es:List PV} {p:Int},voB n p es=true→p≤n - 1→p+es.length≤n - 1
 | [],p,h,hp=>by simp;omega
 | e :: es,p,h,hp=>by
  simp only[voB,inB,Bool.and_eq_true,decide_eq_true_eq] at h
  have:=zJD h.2 (by omega)
  simp only[List.length_cons]
  omega
theorem zPx{n:ND}{t:Int}(h:NdF n)(ht:t≤1000):NdF (zCD n t):=by
 unfold zCD
 split
 ·rename_i h1
  have h0:=h.t0
  have a1:=h.n1
  refine⟨h.n1,h.n5,h.i0,h.i1,by show 0≤t;omega,ht,zSa (t:=n.term) (Int.le_of_lt h1) h.en,h.l6,by show(0:Int)≤0;omega,by show(0:Int)≤2;omega,.inr rfl,h.c0,h.c1,h.e0,h.e1,h.w5,h.w1,?_,?_,rfl,zXo (by omega) _,⟨by show(-1:Int)≤-1;omega,by show(-1:Int)≤4;omega,by show(-1:Int) < n.nodes;omega⟩⟩
  ·show((List.replicate n.nodes.toNat (PV.int .i64 1)).length:Int)=n.nodes
   rw[List.length_replicate];omega
  ·show((List.replicate n.nodes.toNat (PV.int .i64 0)).length:Int)=n.nodes
   rw[List.length_replicate];omega
 ·exact h
def zGY:zJ:=⟨[(.bx,.box [.int .i64,.int .i64,.int .i64,.int .i64,.int .i64,.bool,.list (.agg [.int .i64,.str]),.int .i64,.int .i64,.int .i64,.list (.int .i64),.list (.int .i64),.list (.int .i64)]),(.rd,.agg [.int .i64,.int .i64,.int .i64,.int .i64,.int .i64,.int .i64,.int .i64,.bool,.list (.agg [.int .i64,.str])])],[.list (.agg [.int .i64,.int .i64,.int .i64,.int .i64,.int .i64,.int .i64,.int .i64,.bool,.list (.agg [.int .i64,.str])])],true,fun ps=>NdF (z8 (nth ps 0).A)∧MgF (z8 (nth ps 0).A) (yk (nth ps 1).A),fun ps=>[.list (yI (zCD (z8 (nth ps 0).A) (nth (nth ps 1).A 3).I) (yk (nth ps 1).A)).2],
 fun ps=>[(yI (zCD (z8 (nth ps 0).A) (nth (nth ps 1).A 3).I) (yk (nth ps 1).A)).1.pv]⟩
set_option maxHeartbeats 2000000 in
theorem zZg:zh Tryz.prog 184 zGY:=by
 refine zP [0,1,3,4,5,6,7,26] [.tmp 4] (zA (cs:=[]) zQJ (zA (cs:=[]) zQO (zA (cs:=[]) ze4 (zA (cs:=[]) zav (zA (cs:=[]) zZk (zA (cs:=[]) zQ5 (zA (cs:=[]) zTW (zA (cs:=[]) zNS (zA (cs:=[]) zSM (zD (zB []))))))))))) mixed Tryz.func184 rfl (by decide) rfl (by decide) rfl ?_
 intro ps hT hpre W hW
 simp only[zGY,TyA,Ty,Tys] at hT hpre
 obtain⟨_,_,rfl,⟨_,rfl,_,_,rfl,⟨n0,rfl,hn0⟩,_,_,rfl,⟨n1,rfl,hn1⟩,_,_,rfl,⟨n2,rfl,hn2⟩,_,_,rfl,⟨n3,rfl,hn3⟩,_,_,rfl,⟨n4,rfl,hn4⟩,_,_,rfl,⟨u,rfl⟩,_,_,rfl,⟨es,rfl,hes,tes⟩,_,_,rfl,⟨n5,rfl,hn5⟩,_,_,rfl,⟨n6,rfl,hn6⟩,_,_,rfl,⟨n7,rfl,hn7⟩,_,_,rfl,⟨vs,rfl,hvs,tvs⟩,_,_,rfl,⟨xs,rfl,hxs,txs⟩,_,_,rfl,⟨ms,rfl,hms,tms⟩,rfl⟩,_,_,rfl,⟨_,rfl,_,_,rfl,⟨m0,rfl,hm0⟩,_,_,rfl,⟨m1,rfl,hm1⟩,_,_,rfl,⟨m2,rfl,hm2⟩,_,_,rfl,⟨m3,rfl,hm3⟩,_,_,rfl,⟨m4,rfl,hm4⟩,_,_,rfl,⟨m5,rfl,hm5⟩,_,_,rfl,⟨m6,rfl,hm6⟩,_,_,rfl,⟨m7,rfl⟩,_,_,rfl,⟨m8,rfl,hm8,tm8⟩,rfl⟩,rfl⟩:=hT
 simp only[zE,zF,yp,zAA,zBE,zNq,z8,yk] at hpre
 obtain⟨hF,hM⟩:=hpre
 obtain⟨nd,hnd⟩:∃nd:ND,nd=⟨n0,n1,n2,n3,n4,u,es,n5,n6,n7,vs,xs,ms⟩:=⟨_,rfl⟩
 refine hW.vc [] _ _ ?_
 simp[-List.getD_eq_getElem?_getD,zGY,zEF,zCH,zCf,zA6,zGa,zI8,zJw,zCh,zB1]
 refine hW.cutS [_,_] _ _ [.bx 0 [.int .i64,.int .i64,.int .i64,.int .i64,.int .i64,.bool,.list (.agg [.int .i64,.str]),.int .i64,.int .i64,.int .i64,.list (.int .i64),.list (.int .i64),.list (.int .i64)]] (fun ys=>ys=[(zCD nd m3).pv]) ?_ ?_
 ·refine hW.vc [(1,[],tkN [0,1,2,3,4,5,6] .done)] _ _ ?_
  simp[-List.getD_eq_getElem?_getD,zGY,zEF,zCH,zCf,zA6,zGa,zI8,zJw,zCh,zB1,z8,ND.pv,zGv]
  refine⟨by decide +kernel,fun h=>⟨⟨hF.n1,hF.n5⟩,?_⟩,fun h=>?_⟩
  ·have e:zCD nd m3=⟨n0,n1,m3,-1,0,u,es,n5,n6,n7,[],List.replicate n1.toNat (.int .i64 1),List.replicate n1.toNat (.int .i64 0)⟩:=by rw[hnd,zCD,if_pos h];rfl
   rw[e];exact⟨rfl,rfl,rfl,rfl,rfl,rfl,rfl,rfl,rfl,rfl,rfl,rfl,rfl⟩
  ·have e:zCD nd m3=⟨n0,n1,n2,n3,n4,u,es,n5,n6,n7,vs,xs,ms⟩:=by rw[hnd,zCD,if_neg (Int.not_lt.2 h)]
   rw[e];exact⟨rfl,rfl,rfl,rfl,rfl,rfl,rfl,rfl,rfl,rfl,rfl,rfl,rfl⟩
 ·rintro ys rfl
  refine hW.vc [] _ _ ?_
  simp[-List.getD_eq_getElem?_getD,zGY,zEF,zCH,zCf,zA6,zGa,zI8,zJw,zCh,zB1,z8,yk,ND.pv,zM5]
  have hT:NdF (zCD nd m3):=zPx (by rw[hnd];exact hF) hM.tM
  obtain⟨T,hTd⟩:∃T,T=zCD nd m3:=⟨_,rfl⟩
  rw[←hTd] at hT ⊢
  have hTd':zCD ⟨n0,n1,n2,n3,n4,u,es,n5,n6,n7,vs,xs,ms⟩ m3=T:=by rw[hTd,hnd]
  have eta:(⟨T.id,T.nodes,T.term,T.vote,T.role,T.up,T.log,T.com,T.ela,T.wt,T.vs,T.nx,T.ms⟩:ND)=T:=rfl
  have hm0:0≤m1:=hM.f0
  have hm1:m1 < n1:=hM.f1
  have l6:=hT.l6
  have a1:=hT.n1
  have a2:=hT.n5
  have a3:=hT.nx
  have a4:=hT.ms
  have hTn:T.nodes=n1:=by rw[hTd,hnd,zCD];split<;>rfl
  have hTt:m3≤T.term:=by
   rw[hTd,hnd,zCD];split
   ·exact Int.le_refl _
   ·rename_i h;exact Int.not_lt.1 h
  obtain⟨mg,hmg⟩:∃mg:MG,mg=⟨m0,m1,m2,m3,m4,m5,m6,m7,m8⟩:=⟨_,rfl⟩
  refine⟨fun k1=>?_,fun k1=>⟨fun k2=>?_,fun k2=>⟨fun k3=>?_,fun k3=>?_⟩⟩⟩
  ·refine hW.vc [(1,[],tkN [0,1,2,3,4,5,6] .done),(7,[32],tkN [0,1,2,3,4,5,6,7,8,9,10,11,12,13,14,15,16,17,18,19,20,21,22,23,24,25,26,27,28] (alS 29 (tkN [30,31] (alS 32 .done)))),(12,[],tkN [0,1,2,3,4,5,6,7,8,9,10,11,12,13,14,15,16,17,18] .done),(14,[],tkN [0,1,2,3,4,5] (alS 6 (tkN [7,8,9] (alN [10,11] .done)))),(16,[9,12],tkN [0,1,2,3,4,5,6,7] (alN [8,9] (tkN [10,11] (alS 12 .done)))),(17,[],tkN [0,1,2,3,4,5,6,7,8,9,10] .done),(22,[],tkN [0,1,2,3,4,5,6,7,8,9,10,11,12,13] .done),(25,[24],tkN [0,1,2,3,4,5,6,7,8,9,10,11,12,13,14,15,16,17,18,19,20,21,22,23] (alS 24 .done)),(26,[25],tkN [0,1,2,3,4,5,6,7,8,9,10,11,12,13,14,15,16,17,18,19,20,21,22,23,24] (alS 25 .done)),(29,[30],tkN [0,1,2,3,4,5,6,7,8,9,10,11,12,13,14,15,16,17,18,19,20,21,22,23,24,25,26,27,28,29] (alS 30 .done))] _ _ ?_
   simp[-List.getD_eq_getElem?_getD,zGY,zEF,zCH,zCf,zA6,zGa,zI8,zJw,zCh,zB1,z8,yk,ND.pv,hTd',eta]
   rw[←hmg,yI,if_pos (by rw[hmg];exact k1)]
   have hvB:zSn T mg=(decide (m3=T.term)&&(decide (T.vote=-1) || decide (T.vote=m1))&&zWC T.log m4 m5):=by rw[hmg];rfl
   refine⟨by decide +kernel,fun a=>⟨a,fun b=>⟨a,b⟩⟩,fun _ _=>by omega,fun a b c=>?_,fun a=>?_⟩
   ·have hv:zSn T mg=true:=by rw[hvB];simp[a,b,c]
    rw[zHV,if_pos hv,zY4,hvB,hmg]
    exact⟨rfl,rfl,rfl,rfl,rfl,rfl,rfl,rfl,rfl,rfl,rfl,rfl,rfl,rfl⟩
   ·have hv:¬zSn T mg=true:=by
     rw[hvB]
     simp only[Bool.and_eq_true,Bool.or_eq_true,decide_eq_true_eq]
     intro h
     have:=a h.1.1 h.1.2
     rw[this] at h
     exact absurd h.2 (by simp)
    rw[zHV,if_neg hv,zY4,hvB,hmg]
    exact⟨rfl,rfl,rfl,rfl,rfl,rfl,rfl,rfl,rfl,rfl,rfl,rfl,rfl,rfl⟩
  ·refine hW.vc [(12,[],tkN [0,1,2,3,4,5,6,7,8,9,10,11,12,13,14,15,16,17,18] .done),(14,[],tkN [0,1,2,3,4,5] (alS 6 (tkN [7,8,9] (alN [10,11] .done))))] _ _ ?_
   simp[-List.getD_eq_getElem?_getD,zGY,zEF,zCH,zCf,zA6,zGa,zI8,zJw,zCh,zB1,z8,yk,ND.pv,hTd',eta]
   have vl:=zJD hT.vo (by omega)
   have vo:=zaf hT.n5 hT.vo
   have pl:=zR4 m1 T.vs
   have hH:yI T mg=zE2 T mg:=by rw[yI,if_neg (by rw[hmg];exact k1),if_pos (by rw[hmg];exact k2)]
   have hE1:m7=true→m3=T.term→T.role=1→zE2 T mg=if T.nodes < 2*(zFN m1 T.vs).length then (zCm { T with vs:=zFN m1 T.vs },zAx (zCm { T with vs:=zFN m1 T.vs }) T.nodes.toNat) else ({ T with vs:=zFN m1 T.vs },[]):=fun h1 h2 h3=>by
    rw[zE2,if_neg (by rw[hmg];simp[h1,h2,h3]),hmg]
   rw[←hmg]
   refine⟨by decide +kernel,fun h=>?_,fun r t o=>⟨by decide +kernel,⟨by omega,vo⟩,fun hv=>?_,fun hv=>?_⟩⟩
   ·have e:zE2 T mg=(T,[]):=by
     rw[zE2,if_pos]
     rw[hmg]
     rcases h with (h | h) | h
     ·exact .inl h
     ·exact .inr (.inl h)
     ·exact .inr (.inr h)
    rw[hH,e]
    exact⟨rfl,rfl,rfl,rfl,rfl,rfl,rfl,rfl,rfl,rfl,rfl,rfl,rfl,rfl⟩
   ·have hI:zFN m1 T.vs=T.vs.take (zIq m1 T.vs)++(.int .i64 m1 :: T.vs.drop (zIq m1 T.vs)):=by rw[zFN,if_neg (by rw[hv];simp)];simp
    have hlen:(zFN m1 T.vs).length=T.vs.length+1:=by rw[hI];simp;omega
    refine hW.vc [(16,[9,12],tkN [0,1,2,3,4,5,6,7] (alN [8,9] (tkN [10,11] (alS 12 .done)))),(17,[],tkN [0,1,2,3,4,5,6,7,8,9,10] .done)] _ _ ?_
    simp[-List.getD_eq_getElem?_getD,zGY,zEF,zCH,zCf,zA6,zGa,zI8,zJw,zCh,zB1,z8,yk,ND.pv,hTd',eta]
    rw[←hmg,hH,hE1 o t r,zC (n:=2*_) (by omega)]
    refine⟨by decide +kernel,⟨pl,by omega⟩,by decide +kernel,fun _=>⟨fun h=>?_,fun h=>?_⟩⟩
    ·rw[if_pos (by rw[hlen];omega),hI]
     exact⟨⟨a1,a2,hT.c0,l6⟩,rfl,rfl,rfl,rfl,rfl,rfl,rfl,rfl,rfl,rfl,rfl,rfl,rfl,rfl⟩
    ·rw[if_neg (by rw[hlen];omega),hI]
     exact⟨rfl,rfl,rfl,rfl,rfl,rfl,rfl,rfl,rfl,rfl,rfl,rfl,rfl,rfl⟩
   ·have hI:zFN m1 T.vs=T.vs:=by rw[zFN,if_pos hv]
    refine hW.vc [(17,[],tkN [0,1,2,3,4,5,6,7,8,9,10] .done)] _ _ ?_
    simp[-List.getD_eq_getElem?_getD,zGY,zEF,zCH,zCf,zA6,zGa,zI8,zJw,zCh,zB1,z8,yk,ND.pv,hTd',eta]
    rw[←hmg,hH,hE1 o t r,hI,zC (n:=2*_) (by omega)]
    refine⟨by decide +kernel,fun _=>⟨fun h=>?_,fun h=>?_⟩⟩
    ·rw[if_pos h]
     exact⟨⟨a1,a2,hT.c0,l6⟩,rfl,rfl,rfl,rfl,rfl,rfl,rfl,rfl,rfl,rfl,rfl,rfl,rfl,rfl⟩
    ·rw[if_neg (by omega)]
     exact⟨rfl,rfl,rfl,rfl,rfl,rfl,rfl,rfl,rfl,rfl,rfl,rfl,rfl,rfl⟩
  ·rw[hTd',eta,←hmg]
   have hH:yI T mg=((zBQ T mg).1,[zM5 T mg (zBQ T mg).2.1 (zBQ T mg).2.2]):=by
    rw[yI,if_neg (by rw[hmg];exact k1),if_neg (by rw[hmg];exact k2),if_pos (by rw[hmg];exact k3)]
   rw[hH]
   exact⟨⟨hT,by rw[hmg];exact hM.i0,by rw[hmg];exact hM.i6,by rw[hmg];exact hM.es,by rw[hmg];exact hTt⟩,by rw[hmg];rfl,rfl,rfl,rfl,rfl,rfl,rfl,rfl,rfl,rfl,rfl,rfl,rfl,rfl⟩
  ·have h6:∀x,nth (T.ms.set m1.toNat x) m1.toNat=x:=fun x=>zEc (by omega)
   have h7:∀x,nth (T.nx.set m1.toNat x) m1.toNat=x:=fun x=>zEc (by omega)
   have nm:=zI1 hT.nm (by omega) m1.toNat (by omega)
   have hH:yI T mg=zKi T mg:=by
    rw[yI,if_neg (by rw[hmg];exact k1),if_neg (by rw[hmg];exact k2),if_neg (by rw[hmg];exact k3)]
   have hi0:0≤m4:=hM.i0
   have hi6:m4≤60:=hM.i6
   have bX:0≤mxI (nth T.ms m1.toNat).I (mnI m4 T.log.length)∧mxI (nth T.ms m1.toNat).I (mnI m4 T.log.length)≤61:=by
    unfold mxI mnI
    split<;>split<;>omega
   have w1:=zC (n:=mxI (nth T.ms m1.toNat).I (mnI m4 T.log.length)+1) (by omega)
   have w2:=zC (n:=(nth T.ms m1.toNat).I+1) (by omega)
   have w3:=zC (n:=(nth T.nx m1.toNat).I - 1) (by omega)
   have w4:=zC (n:=m4+1) (by omega)
   have hA:zOV T mg=⟨T.id,T.nodes,T.term,T.vote,T.role,T.up,T.log,T.com,T.ela,T.wt,T.vs,T.nx.set m1.toNat (.int .i64 (mxI (nth T.nx m1.toNat).I (mxI (nth T.ms m1.toNat).I (mnI m4 T.log.length)+1))),T.ms.set m1.toNat (.int .i64 (mxI (nth T.ms m1.toNat).I (mnI m4 T.log.length)))⟩:=by
    rw[hmg];simp only[zOV,ackM,h6,yp]
   have eN:(nth (zPy T mg).nx m1.toNat).I=mxI ((nth T.ms m1.toNat).I+1) (mnI ((nth T.nx m1.toNat).I - 1) (m4+1)):=by
    rw[hmg];simp only[zPy,h7,yp]
   have rO:zUV (zPy T mg) m1:=by
    have eL:((zPy T mg).nx.length:Int)=T.nx.length:=by rw[hmg];simp only[zPy,List.length_set]
    have eG:(zPy T mg).log=T.log:=rfl
    refine⟨hm0,by omega,?_,?_,by rw[eG];omega⟩
    ·rw[eN];unfold mxI mnI;split<;>split<;>omega
    ·rw[eN,eG];unfold mxI mnI;split<;>split<;>omega
   unfold mxI mnI at w1
   refine hW.vc [(1,[],tkN [0,1,2,3,4,5,6] .done),(7,[32],tkN [0,1,2,3,4,5,6,7,8,9,10,11,12,13,14,15,16,17,18,19,20,21,22,23,24,25,26,27,28] (alS 29 (tkN [30,31] (alS 32 .done)))),(12,[],tkN [0,1,2,3,4,5,6,7,8,9,10,11,12,13,14,15,16,17,18] .done),(14,[],tkN [0,1,2,3,4,5] (alS 6 (tkN [7,8,9] (alN [10,11] .done)))),(16,[9,12],tkN [0,1,2,3,4,5,6,7] (alN [8,9] (tkN [10,11] (alS 12 .done)))),(17,[],tkN [0,1,2,3,4,5,6,7,8,9,10] .done),(22,[],tkN [0,1,2,3,4,5,6,7,8,9,10,11,12,13] .done),(25,[24],tkN [0,1,2,3,4,5,6,7,8,9,10,11,12,13,14,15,16,17,18,19,20,21,22,23] (alS 24 .done)),(26,[25],tkN [0,1,2,3,4,5,6,7,8,9,10,11,12,13,14,15,16,17,18,19,20,21,22,23,24] (alS 25 .done)),(29,[30],tkN [0,1,2,3,4,5,6,7,8,9,10,11,12,13,14,15,16,17,18,19,20,21,22,23,24,25,26,27,28,29] (alS 30 .done))] _ _ ?_
   simp[-List.getD_eq_getElem?_getD,zGY,zEF,zCH,zCf,zA6,zGa,zI8,zJw,zCh,zB1,z8,yk,ND.pv,zan,hTd',eta,h6,h7]
   rw[w1,w2,w3,w4,←hmg,hH]
   refine⟨by decide +kernel,fun h=>?_,fun r t=>⟨fun o=>?_,fun o=>?_⟩⟩
   ·have e:zKi T mg=(T,[]):=by
     rw[zKi,if_pos (by rw[hmg];exact h)]
    rw[e]
    exact⟨rfl,rfl,rfl,rfl,rfl,rfl,rfl,rfl,rfl,rfl,rfl,rfl,rfl,rfl⟩
   ·have e:zKi T mg=({ zOV T mg with com:=zGi (zOV T mg) T.log.length },[]):=by
     rw[zKi,if_neg (by rw[hmg];simp[r,t]),if_pos (by rw[hmg];exact o)]
    rw[e,hA]
    exact⟨by decide +kernel,⟨hm0,by omega⟩,by omega,fun _ _=>⟨⟨hm0,by omega⟩,by omega,by decide +kernel,⟨hm0,by omega⟩,by omega,fun _=>⟨⟨hm0,by omega⟩,by omega,fun _ _=>⟨⟨hm0,by omega⟩,by omega,⟨hT.c0,by omega,by omega⟩,rfl,rfl,rfl,rfl,rfl,rfl,rfl,rfl,rfl,rfl,rfl,rfl,rfl,rfl⟩⟩⟩⟩
   ·have e:zKi T mg=(zPy T mg,[zOc (zPy T mg) m1]):=by
     rw[zKi,if_neg (by rw[hmg];simp[r,t]),if_neg (by rw[hmg];simp[o]),hmg]
    have hN:zPy T mg=⟨T.id,T.nodes,T.term,T.vote,T.role,T.up,T.log,T.com,T.ela,T.wt,T.vs,T.nx.set m1.toNat (.int .i64 (mxI ((nth T.ms m1.toNat).I+1) (mnI ((nth T.nx m1.toNat).I - 1) (m4+1)))),T.ms⟩:=by
     rw[hmg];rfl
    rw[hN] at rO
    have hR:=congrArg (fun n=>zOc n m1) hN
    simp only[zOc,zan,h7,yp] at hR
    rw[e,zOc,zan,hR,hN]
    exact⟨by decide +kernel,⟨hm0,by omega⟩,by omega,fun _=>⟨⟨hm0,by omega⟩,by omega,fun _=>⟨⟨hm0,by omega⟩,by omega,rO,rfl,rfl,rfl,rfl,rfl,rfl,rfl,rfl,rfl,rfl,rfl,rfl,rfl,rfl⟩⟩⟩
end
end Go.Proofs.YthogljppoiekaaaGreat
