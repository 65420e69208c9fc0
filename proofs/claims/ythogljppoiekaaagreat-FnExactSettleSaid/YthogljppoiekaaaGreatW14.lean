/-
  Part 14: contracts of functions, and the laws by which they are proved.
  Conditions: none.
-/
import Derived.Test.YthogljppoiekaaaGreatW13
set_option linter.unusedVariables false
set_option linter.unusedSimpArgs false
set_option linter.unusedSectionVars false
set_option maxRecDepth 100000
namespace Go.Proofs.YthogljppoiekaaaGreat
section
variable [zS]
def yq(t:Int)(es:List PV):List PV:=if es.length < 60 then es++[.agg [.int .i64 t,.str []]] else es
def zD6(n:ND):ND:=
 { n with role:=2,ela:=0,nx:=List.replicate n.nodes.toNat (.int .i64 (n.log.length+1)),ms:=List.replicate n.nodes.toNat (.int .i64 0),log:=yq n.term n.log }
def zCm(n:ND):ND:={ zD6 n with com:=zGi (zD6 n) (zD6 n).log.length }
def zX2(n:ND):Prop:=1≤n.nodes∧n.nodes≤5∧0≤n.com∧n.log.length≤60
theorem zP7(t:Int)(es:List PV):es.length≤(yq t es).length∧(yq t es).length≤es.length+1:=by
 unfold yq;split<;>simp
theorem zJL{x:PV}{n i:Nat}(h:i < n):nth (List.replicate n x) i=x:=by simp[nth,h]
theorem zVk{n:ND}(h:zX2 n):zKg (zCm n):=by
 obtain⟨h1,h2,h3,h4⟩:=h
 have h5:=zP7 n.term n.log
 refine⟨h1,h2,fun i hi=>?_⟩
 have hi':(i:Int) < n.nodes:=hi
 have e1:(zCm n).nx=List.replicate n.nodes.toNat (.int .i64 (n.log.length+1)):=rfl
 have e2:(zCm n).log=yq n.term n.log:=rfl
 have e3:(nth (zCm n).nx ((i:Int)).toNat).I=n.log.length+1:=by rw[e1,zJL (by omega),yp]
 refine⟨by omega,by rw[e1,List.length_replicate];omega,by rw[e3];omega,by rw[e3,e2];omega,by rw[e2];omega⟩
def zI8:zJ:=⟨[(.bx,.box [.int .i64,.int .i64,.int .i64,.int .i64,.int .i64,.bool,.list (.agg [.int .i64,.str]),.int .i64,.int .i64,.int .i64,.list (.int .i64),.list (.int .i64),.list (.int .i64)])],[.list (.agg [.int .i64,.int .i64,.int .i64,.int .i64,.int .i64,.int .i64,.int .i64,.bool,.list (.agg [.int .i64,.str])])],true,fun ps=>zX2 (z8 (nth ps 0).A),fun ps=>[.list (zAx (zCm (z8 (nth ps 0).A)) (nth (nth ps 0).A 1).I.toNat)],
 fun ps=>[(zCm (z8 (nth ps 0).A)).pv]⟩
theorem zav:zh Tryz.prog 220 zI8:=by
 refine zP [0,2] [.tmp 2] (zA (cs:=[]) zJP (zA (cs:=[]) zQO (zA (cs:=[]) zX5 (zD (zB []))))) mixed Tryz.func220 rfl (by decide) rfl (by decide) rfl ?_
 intro ps hT hpre W hW
 simp only[zI8,TyA,Ty,Tys] at hT hpre
 obtain⟨_,_,rfl,⟨_,rfl,_,_,rfl,⟨n0,rfl,hn0⟩,_,_,rfl,⟨n1,rfl,hn1⟩,_,_,rfl,⟨n2,rfl,hn2⟩,_,_,rfl,⟨n3,rfl,hn3⟩,_,_,rfl,⟨n4,rfl,hn4⟩,_,_,rfl,⟨u,rfl⟩,_,_,rfl,⟨es,rfl,hes,tes⟩,_,_,rfl,⟨n5,rfl,hn5⟩,_,_,rfl,⟨n6,rfl,hn6⟩,_,_,rfl,⟨n7,rfl,hn7⟩,_,_,rfl,⟨vs,rfl,hvs,tvs⟩,_,_,rfl,⟨xs,rfl,hxs,txs⟩,_,_,rfl,⟨ms,rfl,hms,tms⟩,rfl⟩,rfl⟩:=hT
 simp only[zE,zF,yp,zAA,zBE,zNq,z8] at hpre
 refine hW.vc [(4,[11,14],tkN [0,1,2,3,4,5,6,7,8,9] (alN [10,11] (tkN [12,13] (alS 14 .done))))] _ _ ?_
 simp[-List.getD_eq_getElem?_getD,zI8,zQj,zCh,zBx,z8,ND.pv]
 have hk:=zVk hpre
 obtain⟨p1,p2,p3,p4⟩:=hpre
 simp only at p1 p2 p3 p4
 rw[zC (n:=(es.length:Int)+1) (by omega)]
 refine fun _=>⟨⟨p1,p2⟩,fun _=>⟨fun h=>?_,fun h=>?_⟩⟩
 ·have hA:zCm ⟨n0,n1,n2,n3,n4,u,es,n5,n6,n7,vs,xs,ms⟩=⟨n0,n1,n2,n3,2,u,es++[.agg [.int .i64 n2,.str []]],
    zGi ⟨n0,n1,n2,n3,2,u,es++[.agg [.int .i64 n2,.str []]],n5,0,n7,vs,List.replicate n1.toNat (.int .i64 (es.length+1)),List.replicate n1.toNat (.int .i64 0)⟩ (es.length+1),0,n7,vs,
    List.replicate n1.toNat (.int .i64 (es.length+1)),List.replicate n1.toNat (.int .i64 0)⟩:=by
   have h':es.length < 60:=by omega
   simp only[zCm,zD6,yq,if_pos h',List.length_append,List.length_singleton]
  rw[hA] at hk ⊢
  exact⟨by decide +kernel,by omega,fun _=>⟨⟨p3,p2,by omega⟩,hk,rfl,rfl,rfl,rfl,rfl,rfl,rfl,rfl,rfl,rfl,rfl,rfl,rfl,rfl⟩⟩
 ·have hA:zCm ⟨n0,n1,n2,n3,n4,u,es,n5,n6,n7,vs,xs,ms⟩=⟨n0,n1,n2,n3,2,u,es,
    zGi ⟨n0,n1,n2,n3,2,u,es,n5,0,n7,vs,List.replicate n1.toNat (.int .i64 (es.length+1)),List.replicate n1.toNat (.int .i64 0)⟩ es.length,0,n7,vs,
    List.replicate n1.toNat (.int .i64 (es.length+1)),List.replicate n1.toNat (.int .i64 0)⟩:=by
   have h':¬es.length < 60:=by omega
   simp only[zCm,zD6,yq,if_neg h']
  rw[hA] at hk ⊢
  exact⟨⟨p3,p2,by omega⟩,hk,rfl,rfl,rfl,rfl,rfl,rfl,rfl,rfl,rfl,rfl,rfl,rfl,rfl,rfl⟩
def zW7(n:ND)(to:Int):PV:=.agg [.int .i64 1,.int .i64 n.id,.int .i64 to,.int .i64 n.term,.int .i64 n.log.length,.int .i64 (zCI n.log n.log.length),.int .i64 0,.bool false,.list []]
def zAl(n:ND):Nat→List PV
 | 0=>[]
 | k+1=>zAl n k++(if (k:Int)=n.id then [] else [zW7 n k])
theorem zMA(n:ND):∀k,(zAl n k).length≤k
 | 0=>Nat.le_refl _
 | k+1=>by
  have:=zMA n k
  rw[zAl,List.length_append]
  split<;>simp<;>omega
def zBf(n:ND)(d:Int):ND:={ n with term:=n.term+1,vote:=n.id,role:=1,vs:=[.int .i64 n.id],ela:=0,wt:=5+d.tmod 8 }
def zSb(n:ND):ND:={ n with ela:=if 1000 < n.ela+1 then 1000 else n.ela+1 }
def zEH(n:ND)(d:Int):ND × List PV:=if n.nodes=1 then (zCm (zBf n d),zAx (zCm (zBf n d)) n.nodes.toNat) else (zBf n d,zAl (zBf n d) n.nodes.toNat)
def zBD(n:ND)(d:Int):ND × List PV:=
 if n.role=2 then (if (zSb n).ela < 2 then (zSb n,[]) else ({ n with ela:=0 },zAx { n with ela:=0 } n.nodes.toNat))
 else if (zSb n).ela < n.wt∨n.term=1000 then (zSb n,[]) else zEH n d
theorem zal{n:ND}{d:Int}(h1:n.role=2)(h2:(zSb n).ela < 2):zBD n d=(zSb n,[]):=by rw[zBD,if_pos h1,if_pos h2]
theorem zak{n:ND}{d:Int}(h1:n.role=2)(h2:¬(zSb n).ela < 2):zBD n d=({ n with ela:=0 },zAx { n with ela:=0 } n.nodes.toNat):=by rw[zBD,if_pos h1,if_neg h2]
theorem zaj{n:ND}{d:Int}(h1:¬n.role=2)(h2:(zSb n).ela < n.wt∨n.term=1000):zBD n d=(zSb n,[]):=by rw[zBD,if_neg h1,if_pos h2]
theorem zea{n:ND}{d:Int}(h1:¬n.role=2)(h2:¬((zSb n).ela < n.wt∨n.term=1000))(h3:n.nodes=1):zBD n d=(zCm (zBf n d),zAx (zCm (zBf n d)) n.nodes.toNat):=by rw[zBD,if_neg h1,if_neg h2,zEH,if_pos h3]
theorem zeZ{n:ND}{d:Int}(h1:¬n.role=2)(h2:¬((zSb n).ela < n.wt∨n.term=1000))(h3:¬n.nodes=1):zBD n d=(zBf n d,zAl (zBf n d) n.nodes.toNat):=by rw[zBD,if_neg h1,if_neg h2,zEH,if_neg h3]
theorem zI1{l:Int}:∀{xs ms:List PV},nmB l xs ms=true→xs.length=ms.length→∀i,i < xs.length→1≤(nth xs i).I∧(nth xs i).I≤l+1∧0≤(nth ms i).I∧(nth ms i).I≤(nth xs i).I - 1
 | [],_,_,_,i,hi=>by simp at hi
 | x :: xs,[],_,hl,i,hi=>by simp at hl
 | x :: xs,m :: ms,h,hl,i,hi=>by
  simp only[nmB,Bool.and_eq_true,inB,decide_eq_true_eq] at h
  cases i with
  | zero=>simp only[zE];omega
  | succ i=>simp only[zF];exact zI1 h.2 (by simpa using hl) i (by simpa using hi)
structure NdF (n:ND):Prop where
 n1:1≤n.nodes
 n5:n.nodes≤5
 i0:0≤n.id
 i1:n.id≤n.nodes - 1
 t0:0≤n.term
 t1:n.term≤1000
 en:zIr n.term 0 n.log=true
 l6:n.log.length≤60
 r0:0≤n.role
 r2:n.role≤2
 ur:n.up=true∨n.role=0
 c0:0≤n.com
 c1:n.com≤n.log.length
 e0:0≤n.ela
 e1:n.ela≤1000
 w5:5≤n.wt
 w1:n.wt≤100
 nx:(n.nx.length:Int)=n.nodes
 ms:(n.ms.length:Int)=n.nodes
 vo:voB n.nodes (-1) n.vs=true
 nm:nmB n.log.length n.nx n.ms=true
 vt:-1≤n.vote∧n.vote≤4∧n.vote < n.nodes
theorem zH6{n:ND}(h:zB9 n=true):NdF n:=by
 simp only[zB9,zaq,stB,zKl,inB,leB,ltB,Bool.and_eq_true,Bool.or_eq_true,decide_eq_true_eq,beq_iff_eq] at h
 obtain⟨⟨⟨⟨⟨⟨⟨⟨⟨⟨⟨⟨h1,h2⟩,h3⟩,h4⟩,h5⟩,h6⟩,h7⟩,h8⟩,h9⟩,h10⟩,h11⟩,h12⟩,h13⟩:=h
 exact⟨by omega,by omega,by omega,by omega,by omega,by omega,h3.2.1,by omega,by omega,by omega,h6,by omega,by omega,by omega,by omega,by omega,by omega,h10,h11,h12,h13,by omega⟩
theorem NdF.reps{n:ND}(h:NdF n):zKg n:=by
 refine⟨h.n1,h.n5,fun i hi=>?_⟩
 have h1:=h.nx
 have h2:=h.ms
 have h3:=h.l6
 have:=zI1 h.nm (by omega) i (by omega)
 exact⟨by omega,by omega,by rw[Int.toNat_natCast];omega,by rw[Int.toNat_natCast];omega,by omega⟩
def zRk:zJ:=⟨[(.bx,.box [.int .i64,.int .i64,.int .i64,.int .i64,.int .i64,.bool,.list (.agg [.int .i64,.str]),.int .i64,.int .i64,.int .i64,.list (.int .i64),.list (.int .i64),.list (.int .i64)]),(.rd,.int .i64)],[.list (.agg [.int .i64,.int .i64,.int .i64,.int .i64,.int .i64,.int .i64,.int .i64,.bool,.list (.agg [.int .i64,.str])])],true,fun ps=>zB9 (z8 (nth ps 0).A)=true∧0≤(nth ps 1).I∧(nth ps 1).I≤1000000,fun ps=>[.list (zBD (z8 (nth ps 0).A) (nth ps 1).I).2],
 fun ps=>[(zBD (z8 (nth ps 0).A) (nth ps 1).I).1.pv]⟩
theorem ze3:zh Tryz.prog 192 zRk:=by
 refine zP [0,1,4,5,6,7,92,93] [.tmp 4] (zA (cs:=[]) zNR (zA (cs:=[]) zNS (zA (cs:=[]) zav (zA (cs:=[]) zJP (zD (zB [])))))) mixed Tryz.func192 rfl (by decide) rfl (by decide) rfl ?_
 intro ps hT hpre W hW
 simp only[zRk,TyA,Ty,Tys] at hT hpre
 obtain⟨_,_,rfl,⟨_,rfl,_,_,rfl,⟨n0,rfl,hn0⟩,_,_,rfl,⟨n1,rfl,hn1⟩,_,_,rfl,⟨n2,rfl,hn2⟩,_,_,rfl,⟨n3,rfl,hn3⟩,_,_,rfl,⟨n4,rfl,hn4⟩,_,_,rfl,⟨u,rfl⟩,_,_,rfl,⟨es,rfl,hes,tes⟩,_,_,rfl,⟨n5,rfl,hn5⟩,_,_,rfl,⟨n6,rfl,hn6⟩,_,_,rfl,⟨n7,rfl,hn7⟩,_,_,rfl,⟨vs,rfl,hvs,tvs⟩,_,_,rfl,⟨xs,rfl,hxs,txs⟩,_,_,rfl,⟨ms,rfl,hms,tms⟩,rfl⟩,_,_,rfl,⟨d,rfl,hd⟩,rfl⟩:=hT
 simp only[zE,zF,yp,zAA,zBE,zNq,z8] at hpre
 refine hW.vc [(7,[],tkN [0,1,2,3,4,5,6,7,8,9,10,11,12,13,14,15] .done),(10,[19,22,25,28,31],tkN [0,1,2,3,4,5,6,7,8,9,10,11,12,14,15,16,17,18] (.alt 13 (alS 19 (tkN [20,21] (alS 22 (tkN [23,24] (alS 25 (tkN [26,27] (alS 28 (tkN [29,30] (alS 31 .done))))))))) (alS 19 (tkN [20,21] (.alt 13 (alS 22 (tkN [23,24] (alS 25 (tkN [26,27] (alS 28 (tkN [29,30] (alS 31 .done))))))) (alN [22,13] (tkN [23,24] (alS 25 (tkN [26,27] (alS 28 (tkN [29,30] (alS 31 .done)))))))))))),(19,[13,15],tkN [0,1,2,3,4,5,6,7,8,9,10,12] (alN [11,13] (tkN [14] (alS 15 .done))))] _ _ ?_
 simp[-List.getD_eq_getElem?_getD,zRk,zBx,zI8,zCH,zDc,z8,ND.pv]
 obtain⟨hB,hd0,hd1⟩:=hpre
 have hF:=zH6 hB
 obtain⟨nd,hnd⟩:∃nd:ND,nd=⟨n0,n1,n2,n3,n4,u,es,n5,n6,n7,vs,xs,ms⟩:=⟨_,rfl⟩
 have f1:1≤n1∧n1≤5∧0≤n0∧n0≤n1 - 1∧0≤n2∧n2≤1000∧es.length≤60∧0≤n5∧0≤n6∧n6≤1000:=⟨hF.n1,hF.n5,hF.i0,hF.i1,hF.t0,hF.t1,hF.l6,hF.c0,hF.e0,hF.e1⟩
 have ht:0≤d.tmod 8∧d.tmod 8 < 8:=⟨Int.tmod_nonneg _ hd0,Int.tmod_lt_of_pos _ (by omega)⟩
 have e1:IntKind.i64.wrap (n6+1)=n6+1:=zC (by omega)
 have e2:IntKind.i64.wrap (n2+1)=n2+1:=zC (by omega)
 have e3:IntKind.i64.wrap (5+d.tmod 8)=5+d.tmod 8:=zC (by omega)
 have hr:zKg { nd with ela:=0 }:=by rw[hnd];exact hF.reps
 rw[e1,e2,e3,←hnd]
 have hq:nd.role=n4∧nd.wt=n7∧nd.term=n2∧nd.nodes=n1∧(zSb nd).ela=(if 1000 < n6+1 then 1000 else n6+1):=by rw[hnd];exact⟨rfl,rfl,rfl,rfl,rfl⟩
 obtain⟨q1,q2,q3,q4,q5⟩:=hq
 refine⟨fun h1=>⟨fun h2=>?_,fun h2=>?_⟩,fun h1=>⟨by decide +kernel,fun h2=>?_,fun h2 h3=>⟨by decide +kernel,fun h4=>?_,fun h4=>?_⟩⟩⟩
 ·rw[zal (by rw[q1];exact h1) (by rw[q5];exact h2),hnd]
  exact⟨rfl,rfl,rfl,rfl,rfl,rfl,rfl,rfl,rfl,rfl,rfl,rfl,rfl,rfl⟩
 ·rw[zak (by rw[q1];exact h1) (by rw[q5];exact Int.not_lt.2 h2)]
  refine⟨?_,?_⟩
  ·rw[hnd] at hr;exact hr
  ·rw[hnd];exact⟨rfl,rfl,rfl,rfl,rfl,rfl,rfl,rfl,rfl,rfl,rfl,rfl,rfl,rfl⟩
 ·rw[zaj (by rw[q1];exact h1) (by rw[q5,q2,q3];exact h2),hnd]
  exact⟨rfl,rfl,rfl,rfl,rfl,rfl,rfl,rfl,rfl,rfl,rfl,rfl,rfl,rfl⟩
 ·rw[zea (by rw[q1];exact h1) (by rw[q5,q2,q3];exact fun h=>h.elim (fun h=>absurd h2 (Int.not_le.2 h)) h3) (by rw[q4];exact h4),hnd]
  exact⟨⟨f1.1,f1.2.1,f1.2.2.2.2.2.2.2.1,f1.2.2.2.2.2.2.1⟩,rfl,rfl,rfl,rfl,rfl,rfl,rfl,rfl,rfl,rfl,rfl,rfl,rfl,rfl⟩
 ·have hT:=zeZ (d:=d) (by rw[q1];exact h1) (by rw[q5,q2,q3];exact fun h=>h.elim (fun h=>absurd h2 (Int.not_le.2 h)) h3) (by rw[q4];exact h4)
  have hS:zBf nd d=⟨n0,n1,n2+1,n0,1,u,es,n5,0,5+d.tmod 8,[.int .i64 n0],xs,ms⟩:=by rw[hnd];rfl
  obtain⟨sd,hsd⟩:∃sd:ND,sd=zBf nd d:=⟨_,rfl⟩
  rw[←hsd] at hS hT
  refine hW.loopS _ _ _ [.sl 93 .dp (.int .i64),.sl 5 .dp (.list (.agg [.int .i64,.int .i64,.int .i64,.int .i64,.int .i64,.int .i64,.int .i64,.bool,.list (.agg [.int .i64,.str])]))] (fun ys=>∃i:Nat,ys=[.int .i64 i,.list (zAl sd i)]∧(i:Int)≤n1) (fun ys=>n1.toNat - (nth ys 0).I.toNat) ?_ ?_
  ·simp[-List.getD_eq_getElem?_getD,zRk,zBx,zI8,zCH,zDc]
   exact⟨0,⟨rfl,rfl⟩,by omega⟩
  ·rintro ys ⟨i,rfl,g1⟩
   refine hW.vc [(7,[],tkN [0,1,2,3,4,5,6,7,8,9,10,11,12,13,14,15] .done),(10,[19,22,25,28,31],tkN [0,1,2,3,4,5,6,7,8,9,10,11,12,14,15,16,17,18] (.alt 13 (alS 19 (tkN [20,21] (alS 22 (tkN [23,24] (alS 25 (tkN [26,27] (alS 28 (tkN [29,30] (alS 31 .done))))))))) (alS 19 (tkN [20,21] (.alt 13 (alS 22 (tkN [23,24] (alS 25 (tkN [26,27] (alS 28 (tkN [29,30] (alS 31 .done))))))) (alN [22,13] (tkN [23,24] (alS 25 (tkN [26,27] (alS 28 (tkN [29,30] (alS 31 .done)))))))))))),(19,[13,15],tkN [0,1,2,3,4,5,6,7,8,9,10,12] (alN [11,13] (tkN [14] (alS 15 .done))))] _ _ ?_
   simp[-List.getD_eq_getElem?_getD,zRk,zBx,zI8,zCH,zDc,z8]
   have hl:=zMA sd i
   rw[zC (n:=(i:Int)+1) (by omega)]
   refine⟨fun g2=>⟨fun g3=>⟨by decide +kernel,fun _=>⟨by omega,fun _=>⟨⟨i+1,⟨rfl,?_⟩,by omega⟩,by omega⟩⟩⟩,fun g3=>⟨⟨i+1,⟨rfl,?_⟩,by omega⟩,by omega⟩⟩,fun g2=>?_⟩
   ·rw[zAl,if_neg (by rw[hS];exact g3),hS];rfl
   ·rw[zAl,if_pos (by rw[hS];exact g3),List.append_nil]
   ·have:i=n1.toNat:=by omega
    rw[←hnd,hT,q4,this]
    exact⟨rfl,by rw[hS];rfl⟩
def zJY(n:ND)(d:Int):ND × List PV × Int:=
 cond (zB9 n) (cond (inB d 0 1000000) (cond n.up ((zBD n d).1,(zBD n d).2,0) (n,[],13)) (ND.no,[],4)) (ND.no,[],1)
def zG1:zJ:=⟨[(.rd,.agg [.int .i64,.int .i64,.int .i64,.int .i64,.int .i64,.bool,.list (.agg [.int .i64,.str]),.int .i64,.int .i64,.int .i64,.list (.int .i64),.list (.int .i64),.list (.int .i64)]),(.rd,.int .i64)],[.agg [.int .i64,.int .i64,.int .i64,.int .i64,.int .i64,.bool,.list (.agg [.int .i64,.str]),.int .i64,.int .i64,.int .i64,.list (.int .i64),.list (.int .i64),.list (.int .i64)],.list (.agg [.int .i64,.int .i64,.int .i64,.int .i64,.int .i64,.int .i64,.int .i64,.bool,.list (.agg [.int .i64,.str])]),.int .i64],true,fun ps=>(nth (nth ps 0).A 10).L.length≤1048576,
 fun ps=>[(zJY (z8 (nth ps 0).A) (nth ps 1).I).1.pv,.list (zJY (z8 (nth ps 0).A) (nth ps 1).I).2.1,.int .i64 (zJY (z8 (nth ps 0).A) (nth ps 1).I).2.2],fun _=>[]⟩
theorem zUq:zh Tryz.prog 153 zG1:=by
 refine zP [0,1,2,4,5,6,7,8] [.cell 4 77,.tmp 5,.tmp 6] (zA (cs:=[]) ze3 (zA (cs:=[]) zGt (zA (cs:=[]) zA9 (zA (cs:=[]) zHa (zD (zB [])))))) mixed Tryz.func153 rfl (by decide) rfl (by decide) rfl ?_
 intro ps hT hpre W hW
 simp only[zG1,TyA,Ty,Tys] at hT hpre
 obtain⟨_,_,rfl,⟨_,rfl,_,_,rfl,⟨n0,rfl,hn0⟩,_,_,rfl,⟨n1,rfl,hn1⟩,_,_,rfl,⟨n2,rfl,hn2⟩,_,_,rfl,⟨n3,rfl,hn3⟩,_,_,rfl,⟨n4,rfl,hn4⟩,_,_,rfl,⟨u,rfl⟩,_,_,rfl,⟨es,rfl,hes,tes⟩,_,_,rfl,⟨n5,rfl,hn5⟩,_,_,rfl,⟨n6,rfl,hn6⟩,_,_,rfl,⟨n7,rfl,hn7⟩,_,_,rfl,⟨vs,rfl,hvs,tvs⟩,_,_,rfl,⟨xs,rfl,hxs,txs⟩,_,_,rfl,⟨ms,rfl,hms,tms⟩,rfl⟩,_,_,rfl,⟨d,rfl,hd⟩,rfl⟩:=hT
 simp only[zE,zF,yp,zAA,zBE] at hpre
 refine hW.vc [] _ _ ?_
 simp[-List.getD_eq_getElem?_getD,zG1,zo,zT,yy,zRk,zj,z8,ND.pv]
 obtain⟨nd,hnd⟩:∃nd:ND,nd=⟨n0,n1,n2,n3,n4,u,es,n5,n6,n7,vs,xs,ms⟩:=⟨_,rfl⟩
 rw[←hnd]
 refine⟨fun h1=>?_,fun h1=>⟨fun h2=>?_,fun h2=>?_⟩⟩
 ·have e:zJY nd d=(ND.no,[],1):=by rw[zJY,h1];rfl
  rw[e]
  simp[ND.no]
 ·have e:zJY nd d=(ND.no,[],4):=by rw[zJY,h1,h2];rfl
  rw[e]
  simp[ND.no]
 ·have hF:=zH6 h1
  have f1:es.length≤60∧(xs.length:Int)≤5∧(ms.length:Int)≤5:=by
   have a1:=hF.l6;have a2:=hF.nx;have a3:=hF.ms;have a4:=hF.n5
   rw[hnd] at a1 a2 a3 a4
   simp only at a1 a2 a3 a4
   exact⟨a1,by omega,by omega⟩
  refine⟨fun hu=>⟨⟨by omega,hpre,by omega,by omega⟩,?_⟩,fun hu=>⟨⟨by omega,hpre,by omega,by omega⟩,⟨h1,?_⟩,?_⟩⟩
  ·have e:zJY nd d=(nd,[],13):=by rw[zJY,h1,h2,show nd.up=false by rw[hnd];exact hu];rfl
   rw[e,hnd];exact⟨⟨rfl,rfl,rfl,rfl,rfl,rfl,rfl,rfl,rfl,rfl,rfl,rfl,rfl⟩,rfl,rfl⟩
  ·simp[inB] at h2;omega
  ·have e:zJY nd d=((zBD nd d).1,(zBD nd d).2,0):=by rw[zJY,h1,h2,show nd.up=true by rw[hnd];exact hu];rfl
   rw[e];exact⟨⟨rfl,rfl,rfl,rfl,rfl,rfl,rfl,rfl,rfl,rfl,rfl,rfl,rfl⟩,rfl,rfl⟩
end
end Go.Proofs.YthogljppoiekaaaGreat
