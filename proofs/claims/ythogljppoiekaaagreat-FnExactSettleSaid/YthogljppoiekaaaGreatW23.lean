/-
  Part 23: contracts of functions, and the laws by which they are proved.
  Conditions: none.
-/
import Derived.Test.YthogljppoiekaaaGreatW17
import Derived.Test.YthogljppoiekaaaGreatW22
set_option linter.unusedVariables false
set_option linter.unusedSimpArgs false
set_option linter.unusedSectionVars false
set_option maxRecDepth 100000
namespace Go.Proofs.YthogljppoiekaaaGreat
section
variable [zS]
def zKn(m:MG):Bool:=inB m.kind 1 4&&inB m.frm 0 4&&inB m.to 0 4&&!decide (m.frm=m.to)&&inB m.term 1 1000&&inB m.idx 0 60&&inB m.com 0 60&&inB m.lt 0 m.term
def zY5(m:MG):Bool:=zKl m.term m.es&&leB m.es.length (60 - m.idx)&&(decide ((m.es.length:Int)=0) || leB m.lt (nth (nth m.es 0).A 0).I)&&(ltB 0 m.idx || decide (m.lt=0))
def mgB(m:MG):Bool:=zKn m&&cond (m.kind == 3) (zY5 m) (decide ((m.es.length:Int)=0))
def zY:zJ:=⟨[(.rd,.agg [.int .i64,.int .i64,.int .i64,.int .i64,.int .i64,.int .i64,.int .i64,.bool,.list (.agg [.int .i64,.str])])],[.bool],true,fun _=>True,fun ps=>[.bool (mgB (yk (nth ps 0).A))],fun _=>[]⟩
theorem zFZ:zh Tryz.prog 121 zY:=by
 refine zP [0,1,2] [.tmp 2] (zA (cs:=[]) zOj (zA (cs:=[]) zA9 (zD (zB [])))) mixed Tryz.func121 rfl (by decide) rfl (by decide) rfl ?_
 intro ps hT hpre W hW
 simp only[zY,TyA,Ty,Tys] at hT hpre
 obtain⟨_,_,rfl,⟨_,rfl,_,_,rfl,⟨m0,rfl,hm0⟩,_,_,rfl,⟨m1,rfl,hm1⟩,_,_,rfl,⟨m2,rfl,hm2⟩,_,_,rfl,⟨m3,rfl,hm3⟩,_,_,rfl,⟨m4,rfl,hm4⟩,_,_,rfl,⟨m5,rfl,hm5⟩,_,_,rfl,⟨m6,rfl,hm6⟩,_,_,rfl,⟨m7,rfl⟩,_,_,rfl,⟨m8,rfl,hm8,tm8⟩,rfl⟩,rfl⟩:=hT
 refine hW.vc [(5,[],tkN [0,1,2,3] (alS 4 (tkN [5,6,7,8,9,10,11,12,13,14,15,16,17,18,19,20,21,22,23,24,25,26,27,28,29,30,31,32,33,34,35,36,37,38,39] (alS 40 .done))))] _ _ ?_
 simp[-List.getD_eq_getElem?_getD,zY,zT,zEw,yk]
 refine⟨fun h=>?_,fun b1 b2 b3 b4 b5 b6 b7 b8=>⟨fun h _=>?_,fun h=>⟨by decide +kernel,fun _ _=>⟨fun a b c=>⟨⟨⟨a,b⟩,c⟩,List.length_pos_iff.2 c⟩,fun _=>⟨fun a b=>⟨⟨a,b⟩,fun c=>⟨⟨a,b⟩,c⟩⟩,fun a b c=>⟨⟨⟨a,b⟩,c⟩,fun d=>⟨⟨⟨a,b⟩,c⟩,d⟩⟩,?_⟩⟩⟩⟩⟩
 ·have:zKn ⟨m0,m1,m2,m3,m4,m5,m6,m7,m8⟩=false:=by
   rcases h with ((((((h | h) | h) | h) | h) | h) | h) | h<;>simp[zKn,h]
  simp[mgB,this]
 ·have h1:zKn ⟨m0,m1,m2,m3,m4,m5,m6,m7,m8⟩=true:=by simp[zKn,b1,b2,b3,b4,b5,b6,b7,b8]
  have hk:(m0 == 3)=false:=by simp[h]
  simp only[mgB,h1,hk,cond_false,Bool.true_and]
  rw[Bool.eq_iff_iff]
  simp
 ·have h1:zKn ⟨m0,m1,m2,m3,m4,m5,m6,m7,m8⟩=true:=by simp[zKn,b1,b2,b3,b4,b5,b6,b7,b8]
  have hk:(m0 == 3)=true:=by simp[h]
  rw[zC (n:=60 - m4) (by simp[inB] at b6;omega)]
  simp only[mgB,h1,hk,cond_true,Bool.true_and,zY5,leB,ltB]
  rw[Bool.eq_iff_iff]
  simp
theorem zTI{n:ND}{m:MG}(h:mgB m=true)(hf:m.frm < n.nodes):MgF n m:=by
 have hl:m.es.length≤60:=by
  simp only[mgB,Bool.and_eq_true] at h
  obtain⟨h1,h2⟩:=h
  cases hk:m.kind == 3 with
  | true=>
   rw[hk,cond_true] at h2
   simp only[zY5,zKl,leB,Bool.and_eq_true,decide_eq_true_eq] at h2
   omega
  | false=>
   rw[hk,cond_false] at h2
   simp only[decide_eq_true_eq] at h2
   omega
 simp only[mgB,zKn,inB,Bool.and_eq_true,decide_eq_true_eq] at h
 exact⟨by omega,by omega,by omega,hf,by omega,by omega,by omega,by omega,by omega,by omega,hl⟩
def zKe(n:ND)(m:MG):ND × List PV × Int:=
 cond (zB9 n&&mgB m) (cond (decide (m.to=n.id)&&decide (m.frm < n.nodes)) (cond n.up (cond (zB9 (yI (zCD n m.term) m).1) ((yI (zCD n m.term) m).1,(yI (zCD n m.term) m).2,0) (n,[],3)) (n,[],13)) (ND.no,[],4)) (ND.no,[],1)
def zDW:zJ:=⟨[(.rd,.agg [.int .i64,.int .i64,.int .i64,.int .i64,.int .i64,.bool,.list (.agg [.int .i64,.str]),.int .i64,.int .i64,.int .i64,.list (.int .i64),.list (.int .i64),.list (.int .i64)]),(.rd,.agg [.int .i64,.int .i64,.int .i64,.int .i64,.int .i64,.int .i64,.int .i64,.bool,.list (.agg [.int .i64,.str])])],[.agg [.int .i64,.int .i64,.int .i64,.int .i64,.int .i64,.bool,.list (.agg [.int .i64,.str]),.int .i64,.int .i64,.int .i64,.list (.int .i64),.list (.int .i64),.list (.int .i64)],.list (.agg [.int .i64,.int .i64,.int .i64,.int .i64,.int .i64,.int .i64,.int .i64,.bool,.list (.agg [.int .i64,.str])]),.int .i64],true,fun ps=>(nth (nth ps 0).A 10).L.length≤1048576,
 fun ps=>[(zKe (z8 (nth ps 0).A) (yk (nth ps 1).A)).1.pv,.list (zKe (z8 (nth ps 0).A) (yk (nth ps 1).A)).2.1,.int .i64 (zKe (z8 (nth ps 0).A) (yk (nth ps 1).A)).2.2],fun _=>[]⟩
theorem zUr:zh Tryz.prog 147 zDW:=by
 refine zP [0,1,2,3,4,5,6,7,8] [.cell 4 77,.tmp 5,.tmp 6] (zA (cs:=[]) zZg (zA (cs:=[]) zGt (zA (cs:=[]) zFZ (zA (cs:=[]) zHa (zD (zB [])))))) mixed Tryz.func147 rfl (by decide) rfl (by decide) rfl ?_
 intro ps hT hpre W hW
 simp only[zDW,TyA,Ty,Tys] at hT hpre
 obtain⟨_,_,rfl,⟨_,rfl,_,_,rfl,⟨n0,rfl,hn0⟩,_,_,rfl,⟨n1,rfl,hn1⟩,_,_,rfl,⟨n2,rfl,hn2⟩,_,_,rfl,⟨n3,rfl,hn3⟩,_,_,rfl,⟨n4,rfl,hn4⟩,_,_,rfl,⟨u,rfl⟩,_,_,rfl,⟨es,rfl,hes,tes⟩,_,_,rfl,⟨n5,rfl,hn5⟩,_,_,rfl,⟨n6,rfl,hn6⟩,_,_,rfl,⟨n7,rfl,hn7⟩,_,_,rfl,⟨vs,rfl,hvs,tvs⟩,_,_,rfl,⟨xs,rfl,hxs,txs⟩,_,_,rfl,⟨ms,rfl,hms,tms⟩,rfl⟩,_,_,rfl,⟨_,rfl,_,_,rfl,⟨m0,rfl,hm0⟩,_,_,rfl,⟨m1,rfl,hm1⟩,_,_,rfl,⟨m2,rfl,hm2⟩,_,_,rfl,⟨m3,rfl,hm3⟩,_,_,rfl,⟨m4,rfl,hm4⟩,_,_,rfl,⟨m5,rfl,hm5⟩,_,_,rfl,⟨m6,rfl,hm6⟩,_,_,rfl,⟨m7,rfl⟩,_,_,rfl,⟨m8,rfl,hm8,tm8⟩,rfl⟩,rfl⟩:=hT
 simp only[zE,zF,yp,zAA,zBE] at hpre
 refine hW.vc [] _ _ ?_
 simp[-List.getD_eq_getElem?_getD,zDW,zo,zY,yy,zGY,zj,zj,z8,yk,ND.pv]
 obtain⟨nd,hnd⟩:∃nd:ND,nd=⟨n0,n1,n2,n3,n4,u,es,n5,n6,n7,vs,xs,ms⟩:=⟨_,rfl⟩
 obtain⟨mg,hmg⟩:∃mg:MG,mg=⟨m0,m1,m2,m3,m4,m5,m6,m7,m8⟩:=⟨_,rfl⟩
 rw[←hnd,←hmg]
 refine⟨fun h=>?_,fun h1 h2=>⟨fun h3=>?_,fun h3 h4=>?_⟩⟩
 ·have e:zKe nd mg=(ND.no,[],1):=by rcases h with h | h<;>simp[zKe,h]
  rw[e]
  simp[ND.no]
 ·have e:zKe nd mg=(ND.no,[],4):=by
   have:(decide (mg.to=nd.id)&&decide (mg.frm < nd.nodes))=false:=by
    rw[hmg,hnd]
    simp only[Bool.and_eq_false_iff,decide_eq_false_iff_not]
    exact h3.imp id fun h=>Int.not_lt.2 h
   simp[zKe,h1,h2,this]
  rw[e]
  simp[ND.no]
 ·have hF:=zH6 h1
  have hM:=zTI (n:=nd) h2 (by rw[hmg,hnd];exact h4)
  have f1:es.length≤60∧(xs.length:Int)≤5∧(ms.length:Int)≤5:=by
   have a1:=hF.l6;have a2:=hF.nx;have a3:=hF.ms;have a4:=hF.n5
   rw[hnd] at a1 a2 a3 a4
   simp only at a1 a2 a3 a4
   exact⟨a1,by omega,by omega⟩
  have e0:(decide (mg.to=nd.id)&&decide (mg.frm < nd.nodes))=true:=by
   rw[hmg,hnd]
   simp only[Bool.and_eq_true,decide_eq_true_eq]
   exact⟨h3,h4⟩
  have et:mg.term=m3:=by rw[hmg]
  refine⟨fun hu=>⟨⟨by omega,hpre,by omega,by omega⟩,?_⟩,fun hu=>⟨⟨by omega,hpre,by omega,by omega⟩,⟨hF,hM⟩,fun h5=>⟨⟨by omega,hpre,by omega,by omega⟩,?_⟩,fun h5=>?_⟩⟩
  ·have e:zKe nd mg=(nd,[],13):=by rw[zKe,h1,h2,e0,show nd.up=false by rw[hnd];exact hu];rfl
   rw[e,hnd];exact⟨⟨rfl,rfl,rfl,rfl,rfl,rfl,rfl,rfl,rfl,rfl,rfl,rfl,rfl⟩,rfl,rfl⟩
  ·have e:zKe nd mg=(nd,[],3):=by rw[zKe,h1,h2,e0,show nd.up=true by rw[hnd];exact hu,et,show zB9 (yI (zCD nd m3) mg).1=false from h5];rfl
   rw[e,hnd];exact⟨⟨rfl,rfl,rfl,rfl,rfl,rfl,rfl,rfl,rfl,rfl,rfl,rfl,rfl⟩,rfl,rfl⟩
  ·have e:zKe nd mg=((yI (zCD nd m3) mg).1,(yI (zCD nd m3) mg).2,0):=by rw[zKe,h1,h2,e0,show nd.up=true by rw[hnd];exact hu,et,show zB9 (yI (zCD nd m3) mg).1=true from h5];rfl
   rw[e];exact⟨⟨rfl,rfl,rfl,rfl,rfl,rfl,rfl,rfl,rfl,rfl,rfl,rfl,rfl⟩,rfl,rfl⟩
end
section
variable [zS]
theorem zk{x a b:Int}:inB x a b=true↔a≤x∧x≤b:=by simp[inB]
theorem zIY{t:Int}{e:PV}(h1:leB (nth e.A 1).S.length 400=true)(h2:1≤t)(h3:(nth e.A 0).I=t):∀{es:List PV} {p:Int},p≤t→zIr t p es=true→zIr t p (es++[e])=true
 | [],p,hp,_=>by
  simp only[List.nil_append,zIr,Bool.and_eq_true,zk,h3]
  exact⟨⟨⟨h1,h2,by omega⟩,by simp[leB];omega⟩,trivial⟩
 | x :: es,p,hp,h=>by
  simp only[List.cons_append,zIr,Bool.and_eq_true,zk] at h ⊢
  exact⟨h.1,zIY h1 h2 h3 h.1.1.2.2 h.2⟩
theorem zI5{t:Int}:∀{es:List PV} {p:Int},zIr t p es=true→∀i,i < es.length→1≤(nth (nth es i).A 0).I∧(nth (nth es i).A 0).I≤t
 | [],p,_,i,hi=>by simp at hi
 | e :: es,p,h,i,hi=>by
  simp only[zIr,Bool.and_eq_true,zk] at h
  cases i with
  | zero=>rw[zE];exact⟨h.1.1.2.1,h.1.1.2.2⟩
  | succ i=>rw[zF];exact zI5 h.2 i (by simpa using hi)
theorem zXp{l:Int}(hl:0≤l):∀k:Nat,nmB l (List.replicate k (.int .i64 (l+1))) (List.replicate k (.int .i64 0))=true
 | 0=>rfl
 | k+1=>by
  rw[List.replicate_succ,List.replicate_succ]
  simp only[nmB,Bool.and_eq_true,zk,PV.I]
  exact⟨⟨by omega,by omega⟩,zXp hl k⟩
theorem zKO{l l':Int}(h:l≤l'):∀{xs ms:List PV},nmB l xs ms=true→nmB l' xs ms=true
 | [],ms,_=>by cases ms<;>rfl
 | x :: xs,[],_=>rfl
 | x :: xs,m :: ms,h1=>by
  simp only[nmB,Bool.and_eq_true,zk] at h1 ⊢
  exact⟨⟨⟨h1.1.1.1,by omega⟩,h1.1.2⟩,zKO h h1.2⟩
theorem zFh(n:ND)(h0:0≤n.com):∀p:Nat,n.com≤zGi n p∧(zGi n p≤n.com∨zGi n p≤p)
 | 0=>by simp[zGi]
 | p+1=>by
  have ih:=zFh n h0 p
  rw[zGi]
  split
  ·omega
  ·split
   ·omega
   ·omega
theorem zLz{n:ND}(h:NdF n)(ht:1≤n.term)(hu:n.up=true):NdF (zCm n):=by
 have hl:=zP7 n.term n.log
 have h6:=h.l6
 have h60:(yq n.term n.log).length≤60:=by
  unfold yq
  split
  ·rw[List.length_append];simp only[List.length_singleton];omega
  ·exact h6
 have hen:zIr n.term 0 (yq n.term n.log)=true:=by
  unfold yq
  split
  ·exact zIY rfl ht rfl (by omega) h.en
  ·exact h.en
 have hc:=zFh (zD6 n) h.c0 (zD6 n).log.length
 have hcl:(zD6 n).com=n.com:=rfl
 have hll:(zD6 n).log.length=(yq n.term n.log).length:=rfl
 have hcom:(zCm n).com=zGi (zD6 n) (zD6 n).log.length:=rfl
 have hlg:(zCm n).log=yq n.term n.log:=rfl
 have c0:=h.c0;have c1:=h.c1;have n1:=h.n1
 refine⟨h.n1,h.n5,h.i0,h.i1,h.t0,h.t1,hen,h60,by show(0:Int)≤2;decide,by show(2:Int)≤2;decide,.inl hu,by rw[hcom];omega,by rw[hcom,hlg];omega,by show(0:Int)≤0;decide,by show(0:Int)≤1000;decide,h.w5,h.w1,?_,?_,h.vo,?_,h.vt⟩
 ·show((List.replicate n.nodes.toNat (PV.int .i64 (n.log.length+1))).length:Int)=n.nodes
  rw[List.length_replicate];omega
 ·show((List.replicate n.nodes.toNat (PV.int .i64 0)).length:Int)=n.nodes
  rw[List.length_replicate];omega
 ·exact zKO (l:=n.log.length) (by rw[hlg];omega) (zXp (by omega) _)
theorem zEx{n p:Int}{e:PV}{l:List PV}:voB n p (e :: l)=true↔(0≤e.I∧e.I≤n - 1)∧p < e.I∧voB n e.I l=true:=by
 show(inB e.I 0 (n - 1)&&decide (p < e.I)&&voB n e.I l)=true↔_
 simp only[Bool.and_eq_true,zk,decide_eq_true_eq,and_assoc]
theorem zJ7{n p x:Int}{l:List PV}:voB n p (.int .i64 x :: l)=true↔(0≤x∧x≤n - 1)∧p < x∧voB n x l=true:=zEx (e:=.int .i64 x)
theorem zJH{n:ND}{d:Int}(h:NdF n)(ht:n.term≤999)(hd:0≤d)(hu:n.up=true):NdF (zBf n d):=by
 have t0:=h.t0;have i0:=h.i0;have i1:=h.i1;have n5:=h.n5
 have htm:0≤d.tmod 8∧d.tmod 8 < 8:=⟨Int.tmod_nonneg _ hd,Int.tmod_lt_of_pos _ (by omega)⟩
 refine⟨h.n1,h.n5,h.i0,h.i1,by show 0≤n.term+1;omega,by show n.term+1≤1000;omega,zSa (t:=n.term) (by show n.term≤n.term+1;omega) h.en,h.l6,by show(0:Int)≤1;decide,by show(1:Int)≤2;decide,.inl hu,h.c0,h.c1,by show(0:Int)≤0;decide,by show(0:Int)≤1000;decide,
  by show 5≤5+d.tmod 8;omega,by show 5+d.tmod 8≤100;omega,h.nx,h.ms,?_,h.nm,⟨by show -1≤n.id;omega,by show n.id≤4;omega,by show n.id < n.nodes;omega⟩⟩
 exact zJ7.2 ⟨⟨i0,i1⟩,by omega,rfl⟩
theorem NdF.ela0{n:ND}(h:NdF n):NdF { n with ela:=0 }:=
 ⟨h.n1,h.n5,h.i0,h.i1,h.t0,h.t1,h.en,h.l6,h.r0,h.r2,h.ur,h.c0,h.c1,by show(0:Int)≤0;decide,by show(0:Int)≤1000;decide,h.w5,h.w1,h.nx,h.ms,h.vo,h.nm,h.vt⟩
theorem zPS{n:ND}{d:Int}(h:NdF n)(hd:0≤d)(hu:n.up=true):NdF (zBD n d).1:=by
 have t0:=h.t0;have t1:=h.t1
 unfold zBD
 split
 ·split
  ·exact h.ela'
  ·exact h.ela0
 ·split
  ·exact h.ela'
  ·rename_i h1 h2
   have h3:n.term≠1000:=fun e=>h2 (.inr e)
   have hS:=zJH (d:=d) h (by omega) hd hu
   unfold zEH
   split
   ·exact zLz hS (by show 1≤n.term+1;omega) hu
   ·exact hS
structure Stp (n x:ND) (k:Int):Prop where
 t0:n.term≤x.term
 t1:x.term≤n.term+k
 c:n.com≤x.com
 v:x.term=n.term→0≤n.vote→x.vote=n.vote
 u:x.up=n.up
 nd:x.nodes=n.nodes
 i:x.id=n.id
 rt:(n.role≠0→1≤n.term)→x.role≠0→1≤x.term
theorem Stp.refl(n:ND):Stp n n 0:=⟨by omega,by omega,by omega,fun _ _=>rfl,rfl,rfl,rfl,fun h=>h⟩
theorem Stp.trans{a b c:ND}{k l:Int}(h:Stp a b k)(g:Stp b c l):Stp a c (k+l):=by
 have a1:=h.t0;have a2:=h.t1;have a3:=g.t0;have a4:=g.t1;have a5:=h.c;have a6:=g.c
 refine⟨by omega,by omega,by omega,fun e h0=>?_,by rw[g.u,h.u],by rw[g.nd,h.nd],by rw[g.i,h.i],fun q=>g.rt (h.rt q)⟩
 have e1:=h.v (by omega) h0
 rw[g.v (by omega) (by omega),e1]
theorem Stp.mono{n x:ND}{k l:Int}(h:Stp n x k)(hl:k≤l):Stp n x l:=⟨h.t0,by have:=h.t1;omega,h.c,h.v,h.u,h.nd,h.i,h.rt⟩
theorem zas{n:ND}(hc:0≤n.com)(ht:1≤n.term):Stp n (zCm n) 0:=by
 have h1:=(zFh (zD6 n) hc (zD6 n).log.length).1
 exact⟨Int.le_refl _,by show n.term≤n.term+0;omega,h1,fun _ _=>rfl,rfl,rfl,rfl,fun _ _=>ht⟩
theorem zRH{n:ND}{d:Int}(h:NdF n):Stp n (zBD n d).1 1:=by
 have t0:=h.t0
 have hS:Stp n (zBf n d) 1:=⟨by show n.term≤n.term+1;omega,by show n.term+1≤n.term+1;omega,Int.le_refl _,fun(e:n.term+1=n.term) _=>by omega,rfl,rfl,rfl,fun _ _=>by show 1≤n.term+1;omega⟩
 unfold zBD
 split
 ·split
  ·exact⟨Int.le_refl _,by show n.term≤n.term+1;omega,Int.le_refl _,fun _ _=>rfl,rfl,rfl,rfl,fun h=>h⟩
  ·exact⟨Int.le_refl _,by show n.term≤n.term+1;omega,Int.le_refl _,fun _ _=>rfl,rfl,rfl,rfl,fun h=>h⟩
 ·split
  ·exact⟨Int.le_refl _,by show n.term≤n.term+1;omega,Int.le_refl _,fun _ _=>rfl,rfl,rfl,rfl,fun h=>h⟩
  ·unfold zEH
   split
   ·exact hS.trans (zas (n:=zBf n d) h.c0 (by show 1≤n.term+1;omega))
   ·exact hS
theorem new_S{n:ND}{t k:Int}(hk:0≤k)(ht:t≤n.term+k):Stp n (zCD n t) k:=by
 unfold zCD
 split
 ·rename_i h
  exact⟨Int.le_of_lt h,ht,Int.le_refl _,fun(e:t=n.term) _=>by omega,rfl,rfl,rfl,fun _ (h:(0:Int)≠0)=>absurd rfl h⟩
 ·exact(Stp.refl n).mono hk
theorem zfB{n:ND}{m:MG}(hc:0≤n.com)(hm:1≤m.term):Stp n (yI n m).1 0:=by
 have r0:=Stp.refl n
 unfold yI
 split
 ·show Stp n (zHV n m) 0
  unfold zHV
  split
  ·rename_i hv
   refine⟨Int.le_refl _,by show n.term≤n.term+0;omega,Int.le_refl _,fun _ h0=>?_,rfl,rfl,rfl,fun h=>h⟩
   simp only[zSn,Bool.and_eq_true,Bool.or_eq_true,decide_eq_true_eq] at hv
   show m.frm=n.vote
   omega
  ·exact r0
 ·split
  ·unfold zE2
   split
   ·exact r0
   ·rename_i he
    have he':1≤n.term:=by
     have:m.term=n.term:=Decidable.byContradiction fun h=>he (.inr (.inl h))
     omega
    split
    ·have h:=zas (n:={ n with vs:=zFN m.frm n.vs }) hc he'
     exact⟨h.t0,h.t1,h.c,h.v,h.u,h.nd,h.i,h.rt⟩
    ·exact⟨Int.le_refl _,by show n.term≤n.term+0;omega,Int.le_refl _,fun _ _=>rfl,rfl,rfl,rfl,fun h=>h⟩
  ·split
   ·show Stp n (zBQ n m).1 0
    have hF:Stp n (zAW n m) 0:=by
     unfold zAW
     split
     ·exact⟨Int.le_refl _,by show n.term≤n.term+0;omega,Int.le_refl _,fun _ _=>rfl,rfl,rfl,rfl,fun _ (h:(0:Int)≠0)=>absurd rfl h⟩
     ·exact r0
    unfold zBQ
    cases zDX n m with
    | true=>exact hF
    | false=>
     refine hF.trans (c:=zPU (zAW n m) m) (l:=0) ⟨Int.le_refl _,by show(zAW n m).term≤(zAW n m).term+0;omega,?_,fun _ _=>rfl,rfl,rfl,rfl,fun h=>h⟩
     show(zAW n m).com≤mxI (zAW n m).com _
     unfold mxI;split<;>omega
   ·unfold zKi
    split
    ·exact r0
    ·split
     ·exact⟨Int.le_refl _,by show n.term≤n.term+0;omega,(zFh (zOV n m) hc _).1,fun _ _=>rfl,rfl,rfl,rfl,fun h=>h⟩
     ·exact⟨Int.le_refl _,by show n.term≤n.term+0;omega,Int.le_refl _,fun _ _=>rfl,rfl,rfl,rfl,fun h=>h⟩
theorem zIo{n:ND}(h:NdF n):zB9 n=true:=by
 obtain⟨h1,h2,h3,h4,h5,h6,h7,h8,h9,h10,h11,h12,h13,h14,h15,h16,h17,h18,h19,h20,h21,h22⟩:=h
 have k1:inB n.nodes 1 5=true:=zk.2 ⟨h1,h2⟩
 have k2:inB n.id 0 (n.nodes - 1)=true:=zk.2 ⟨h3,h4⟩
 have k3:inB n.term 0 1000=true:=zk.2 ⟨h5,h6⟩
 have k4:inB n.vote (-1) 4=true:=zk.2 ⟨h22.1,h22.2.1⟩
 have k5:leB n.log.length 60=true:=by simp[leB];omega
 have k6:ltB n.vote n.nodes=true:=by simp[ltB];omega
 have k7:inB n.role 0 2=true:=zk.2 ⟨h9,h10⟩
 have k8:(n.up || n.role == 0)=true:=by rcases h11 with h | h<;>simp[h]
 have k9:inB n.com 0 n.log.length=true:=zk.2 ⟨h12,h13⟩
 have k10:inB n.ela 0 1000=true:=zk.2 ⟨h14,h15⟩
 have k11:inB n.wt 5 100=true:=zk.2 ⟨h16,h17⟩
 simp only[zB9,zaq,stB,zKl,k1,k2,k3,k4,k5,k6,k7,k8,k9,k10,k11,h7,h18,h19,h20,h21,Bool.and_true,Bool.true_and,beq_self_eq_true]
end
section
variable [zS]
structure ST where
 t:Int
 v:Int
 log:List PV
def ST.pv(s:ST):PV:=.agg [.int .i64 s.t,.int .i64 s.v,.list s.log]
def ST.ok(s:ST):Bool:=stB s.t s.v s.log
def ST.no:ST:=⟨0,0,[]⟩
def ST.one:ST:=⟨0,-1,[]⟩
def isE(e:PV):Prop:=∃n l,e=.agg [.int .i64 n,.str l]
theorem zQQ{a b:PV}(ha:isE a)(hb:isE b)(h:ze a b=true):a=b:=by
 obtain⟨n,l,rfl⟩:=ha
 obtain⟨m,k,rfl⟩:=hb
 simp only[ze,zEP,zBE,zE,zF,yp,zEW,Bool.and_eq_true,beq_iff_eq] at h
 rw[h.1,h.2]
theorem zbs{a:PV}(ha:isE a):PV.agg [.int .i64 (nth a.A 0).I,.str (nth a.A 1).S]=a:=by
 obtain⟨n,l,rfl⟩:=ha;rfl
def zBk:List PV→List PV→Nat
 | a :: us,b :: vs=>if ze a b=true then zBk us vs+1 else 0
 | _,_=>0
theorem zQf:∀(us vs:List PV),zBk us vs≤us.length∧zBk us vs≤vs.length
 | [],_=>by simp[zBk]
 | _ :: _,[]=>by simp[zBk]
 | a :: us,b :: vs=>by
  have:=zQf us vs
  simp only[zBk]
  split<;>simp<;>omega
theorem zTs:∀{us vs:List PV},(∀e∈us,isE e)→(∀e∈vs,isE e)→us.take (zBk us vs)=vs.take (zBk us vs)
 | [],vs,_,_=>by simp[zBk]
 | _ :: _,[],_,_=>by simp[zBk]
 | a :: us,b :: vs,h1,h2=>by
  simp only[zBk]
  split
  ·rename_i h
   rw[List.take_succ_cons,List.take_succ_cons,zQQ (h1 a (by simp)) (h2 b (by simp)) h,zTs (fun e he=>h1 e (by simp[he])) (fun e he=>h2 e (by simp[he]))]
  ·simp
theorem zIa:∀{us vs:List PV} {i:Nat},i≤zBk us vs→i < us.length→i < vs.length→(ze (nth us i) (nth vs i)=true→i+1≤zBk us vs)∧(ze (nth us i) (nth vs i)=false→zBk us vs=i)
 | [],_,_,_,h,_=>by simp at h
 | _ :: _,[],_,_,_,h=>by simp at h
 | a :: us,b :: vs,0,_,_,_=>by
  simp only[zE,zBk]
  refine⟨fun h=>by rw[if_pos h];omega,fun h=>by rw[if_neg (by simp[h])]⟩
 | a :: us,b :: vs,i+1,h1,h2,h3=>by
  simp only[zF,zBk] at h1 ⊢
  split at h1
  ·rename_i h
   rw[if_pos h]
   have:=zIa (us:=us) (vs:=vs) (i:=i) (by omega) (by simpa using h2) (by simpa using h3)
   refine⟨fun q=>by have:=this.1 q;omega,fun q=>by rw[this.2 q]⟩
  ·omega
def zVU(t v:Int):List UInt8:=zCM [.str [116],.str (zD4 [.int .i64 t,.int .i64 v])]
def zVV(k:Nat):List UInt8:=zCM [.str [99],.str (zD4 [.int .i64 k])]
def zPj(e:PV):List UInt8:=zCM [.str [101],.str (zD4 [.int .i64 (nth e.A 0).I]),.str (nth e.A 1).S]
def zIp(a b:ST):List PV:=if a.t=b.t∧a.v=b.v then [] else [.str (zVU b.t b.v)]
def zJK(a b:ST):List PV:=if zBk a.log b.log < a.log.length then [.str (zVV (zBk a.log b.log))] else []
def zLp(a b:ST):List PV:=(b.log.drop (zBk a.log b.log)).map fun e=>.str (zPj e)
def zBR(a b:ST):List PV:=zIp a b++(zJK a b++zLp a b)
def zKN(fs:List PV)(i:Nat):Int:=(nth (zC6 (i+1) (nth fs 1).S) i).I
def zOU(s:ST)(fs:List PV):Option ST:=
 if (nth fs 0).S=[116] then (if fs.length=2∧(nth fs 1).S.length=6∧s.t≤zKN fs 0 then some ⟨zKN fs 0,zKN fs 1,s.log⟩ else none)
 else if (nth fs 0).S=[99] then (if fs.length=2∧(nth fs 1).S.length=3∧0≤zKN fs 0∧zKN fs 0≤s.log.length - 1 then some ⟨s.t,s.v,s.log.take (zKN fs 0).toNat⟩ else none)
 else if (nth fs 0).S=[101] then (if fs.length=3∧(nth fs 1).S.length=3 then some ⟨s.t,s.v,s.log++[.agg [.int .i64 (zKN fs 0),.str (nth fs 2).S]]⟩ else none)
 else none
def zNs(s:ST)(r:List UInt8):Option ST:=if (rdI r).2=false∨(rdI r).1.length < 2 then none else zOU s (rdI r).1
def zOo(s:ST)(r:List UInt8):ST × Bool:=match zNs s r with | none=>(ST.no,false) | some o=>(o,o.ok)
theorem zT4{s:ST}{r:List UInt8}(h:zNs s r=none):zOo s r=(ST.no,false):=by rw[zOo,h]
theorem zQn{s o:ST}{r:List UInt8}(h:zNs s r=some o):zOo s r=(o,o.ok):=by rw[zOo,h]
def zBK:ST→List PV→ST × Bool
 | s,[]=>(s,true)
 | s,e :: es=>if (zOo s e.S).2=true then zBK (zOo s e.S).1 es else (s,false)
theorem zH1:∀{es fs:List PV} {s s':ST},zBK s es=(s',true)→zBK s (es++fs)=zBK s' fs
 | [],fs,s,s',h=>by
  simp only[zBK,Prod.mk.injEq] at h
  rw[h.1];rfl
 | e :: es,fs,s,s',h=>by
  rw[zBK] at h
  split at h
  ·rename_i q
   rw[List.cons_append,zBK,if_pos q]
   exact zH1 h
  ·cases h
theorem zPi{s o:ST}{r:List UInt8}(h:zNs s r=some o)(ho:o.ok=true):zBK s [.str r]=(o,true):=by
 have e:=zQn h
 rw[ho] at e
 simp only[zBK,zEW,e,if_true]
theorem zXX:∀{es:List PV} (r:List UInt8),(∀e∈es,∃d,e=.str d∧d.length≤20000)→zPk es.length ((es.flatMap fun e=>nB e.S.length 2++e.S)++r)=some (es,r)
 | [],r,_=>by simp[zPk]
 | e :: es,r,h=>by
  obtain⟨d,rfl,hd⟩:=h e (by simp)
  have ih:=zXX (es:=es) r fun x hx=>h x (by simp[hx])
  have e2:=zFB d.length 2
  have en:zB6 (nB d.length 2)=d.length:=zPt (by omega) (by simp;omega)
  simp only[List.flatMap_cons,zEW,List.append_assoc,List.length_cons]
  generalize (es.flatMap fun e=>nB e.S.length 2++e.S)++r=T at *
  have a1:(nB d.length 2++(d++T)).take 2=nB d.length 2:=by rw[List.take_append_of_le_length (by omega),List.take_of_length_le (by omega)]
  have a2:(nB d.length 2++(d++T)).drop 2=d++T:=by rw[List.drop_append_of_le_length (by omega),List.drop_of_length_le (by omega),List.nil_append]
  have a3:(nB d.length 2++(d++T)).drop (2+d.length)=T:=by rw[←List.drop_drop,a2,List.drop_append_of_le_length (by omega),List.drop_of_length_le (by omega),List.nil_append]
  rw[zPk,a1,en,if_neg (by simp only[List.length_append,e2];omega),Int.toNat_natCast,a2,a3,ih,Option.map_some,List.take_append_of_le_length (by omega),List.take_of_length_le (by omega)]
theorem zXW{es:List PV}(h:∀e∈es,∃d,e=.str d∧d.length≤20000)(h60:es.length≤60)(hl:(zCM es).length≤65536):rdI (zCM es)=(es,true):=by
 have e1:(zGl (es.length:Int)).toNat=es.length:=by have:=zOS es.length;omega
 have e2:rdF (zCM es)=some (es,[]):=by
  have h1:=zXX (es:=es) [] h
  rw[List.append_nil] at h1
  rw[rdF,if_neg (by simp[zCM,e1];omega)]
  simp only[zCM,List.getD_cons_zero,e1,List.drop_succ_cons,List.drop_zero]
  exact h1
 rw[rdI,if_neg (by omega),e2];rfl
theorem zEn(a b:List UInt8):(zCM [.str a,.str b]).length=5+a.length+b.length:=by
 simp[zCM,zFB];omega
theorem zHc(a b c:List UInt8):(zCM [.str a,.str b,.str c]).length=7+a.length+b.length+c.length:=by
 simp[zCM,zFB];omega
theorem zO5(x:Int)(es:List PV)(h0:-1≤x)(h1:x < 16777215)(t:List UInt8):(zB6 ((nB (x+1) 3++t).take 3) - 1=x)∧(nB (x+1) 3++t).drop 3=t:=by
 have e:=zFB (x+1) 3
 refine⟨?_,?_⟩
 ·rw[List.take_append_of_le_length (by omega),List.take_of_length_le (by omega),zPt (by omega) (by simp;omega)];omega
 ·rw[List.drop_append_of_le_length (by omega),List.drop_of_length_le (by omega),List.nil_append]
theorem zZM{s:ST}{t v:Int}(h1:0≤t)(h2:t≤1000)(h3:-1≤v)(h4:v≤4)(hs:s.t≤t):zNs s (zVU t v)=some ⟨t,v,s.log⟩:=by
 have hn:(zD4 [.int .i64 t,.int .i64 v]).length=6:=by rw[zCF];rfl
 have hr:rdI (zVU t v)=([.str [116],.str (zD4 [.int .i64 t,.int .i64 v])],true):=zXW (by simp[hn]) (by simp) (by rw[zEn,hn];simp)
 obtain⟨a1,a2⟩:=zO5 t [] (by omega) (by omega) (nB (v+1) 3++[])
 obtain⟨b1,b2⟩:=zO5 v [] (by omega) (by omega) []
 have hN:zD4 [.int .i64 t,.int .i64 v]=nB (t+1) 3++(nB (v+1) 3++[]):=by simp[zD4,yp]
 have n0:zKN [.str [116],.str (zD4 [.int .i64 t,.int .i64 v])] 0=t:=by
  simp only[zKN,zF,zE,zEW,zC6,yp,hN,a1]
 have n1:zKN [.str [116],.str (zD4 [.int .i64 t,.int .i64 v])] 1=v:=by
  simp only[zKN,zF,zE,zEW,zC6,yp,hN,a2,b1]
 rw[zNs,hr,if_neg (by simp),zOU,if_pos (by simp),if_pos (by rw[n0];simp[hn];exact hs),n0,n1]
theorem zZO{s:ST}{k:Nat}(h:k < s.log.length)(h2:k≤60):zNs s (zVV k)=some ⟨s.t,s.v,s.log.take k⟩:=by
 have hn:(zD4 [.int .i64 k]).length=3:=by rw[zCF];rfl
 have hr:rdI (zVV k)=([.str [99],.str (zD4 [.int .i64 k])],true):=zXW (by simp[hn]) (by simp) (by rw[zEn,hn];simp)
 obtain⟨a1,a2⟩:=zO5 k [] (by omega) (by omega) []
 have hN:zD4 [.int .i64 k]=nB ((k:Int)+1) 3++[]:=by simp[zD4,yp]
 have n0:zKN [.str [99],.str (zD4 [.int .i64 k])] 0=k:=by
  simp only[zKN,zF,zE,zEW,zC6,yp,hN,a1]
 rw[zNs,hr,if_neg (by simp),zOU,if_neg (by simp),if_pos (by simp),if_pos (by rw[n0];simp[hn];omega),n0,Int.toNat_natCast]
theorem zZN{s:ST}{e:PV}(he:isE e)(h0:1≤(nth e.A 0).I)(h1:(nth e.A 0).I≤1000)(h2:(nth e.A 1).S.length≤400):zNs s (zPj e)=some ⟨s.t,s.v,s.log++[e]⟩:=by
 have hn:(zD4 [.int .i64 (nth e.A 0).I]).length=3:=by rw[zCF];rfl
 have hr:rdI (zPj e)=([.str [101],.str (zD4 [.int .i64 (nth e.A 0).I]),.str (nth e.A 1).S],true):=zXW (by simp[hn];omega) (by simp) (by rw[zHc,hn];simp;omega)
 obtain⟨a1,a2⟩:=zO5 (nth e.A 0).I [] (by omega) (by omega) []
 have hN:zD4 [.int .i64 (nth e.A 0).I]=nB ((nth e.A 0).I+1) 3++[]:=by simp[zD4,yp]
 have n0:zKN [.str [101],.str (zD4 [.int .i64 (nth e.A 0).I]),.str (nth e.A 1).S] 0=(nth e.A 0).I:=by
  simp only[zKN,zF,zE,zEW,zC6,yp,hN,a1]
 rw[zNs,hr,if_neg (by simp),zOU,if_neg (by simp),if_neg (by simp),if_pos (by simp),if_pos (by simp[hn]),n0]
 simp only[zF,zE,zEW,zbs he]
theorem ST.facts{s:ST}(h:s.ok=true):(0≤s.t∧s.t≤1000)∧(-1≤s.v∧s.v≤4)∧zIr s.t 0 s.log=true∧s.log.length≤60:=by
 simp only[ST.ok,stB,zKl,Bool.and_eq_true,zk,leB,decide_eq_true_eq] at h
 exact⟨h.1.1,h.1.2,h.2.1,by omega⟩
theorem ST.mk_ok{s:ST}(h1:0≤s.t)(h2:s.t≤1000)(h3:-1≤s.v)(h4:s.v≤4)(h5:zIr s.t 0 s.log=true)(h6:s.log.length≤60):s.ok=true:=by
 simp only[ST.ok,stB,zKl,Bool.and_eq_true,zk,leB,decide_eq_true_eq]
 exact⟨⟨⟨h1,h2⟩,h3,h4⟩,h5,by omega⟩
theorem zNe{t:Int}:∀{es:List PV} {p:Int} (k:Nat),zIr t p es=true→zIr t p (es.take k)=true
 | [],p,k,h=>by simpa using h
 | e :: es,p,0,h=>rfl
 | e :: es,p,k+1,h=>by
  simp only[List.take_succ_cons,zIr,Bool.and_eq_true] at h ⊢
  exact⟨h.1,zNe k h.2⟩
theorem zGR{t:Int}:∀{es:List PV} {p:Int},zIr t p es=true→∀e∈es,(nth e.A 1).S.length≤400∧1≤(nth e.A 0).I∧(nth e.A 0).I≤t
 | [],_,_,e,he=>by simp at he
 | x :: es,p,h,e,he=>by
  simp only[zIr,Bool.and_eq_true,zk,leB,decide_eq_true_eq] at h
  rcases List.mem_cons.1 he with rfl | he
  ·exact⟨by omega,by omega,by omega⟩
  ·exact zGR h.2 e he
def zWS(a b s:ST):Prop:=s=a∨(s.t=b.t∧s.v=b.v∧(s.log=a.log∨∃i,zBk a.log b.log≤i∧i≤b.log.length∧s.log=b.log.take i))
theorem zXU{b:ST}(hb:b.ok=true)(eb:∀e∈b.log,isE e):∀(j k:Nat),k+j≤b.log.length→zBK ⟨b.t,b.v,b.log.take k⟩ (((b.log.drop k).map fun e=>PV.str (zPj e)).take j)=(⟨b.t,b.v,b.log.take (k+j)⟩,true)
 | 0,k,h=>by simp[zBK]
 | j+1,k,h=>by
  obtain⟨f1,f2,f3,f4⟩:=ST.facts hb
  have hk:k < b.log.length:=by omega
  obtain⟨d1,d2,d3⟩:=zGR f3 _ (zb hk)
  have hA:=zZN (s:=⟨b.t,b.v,b.log.take k⟩) (eb _ (zb hk)) d2 (by omega) d1
  have hO:(⟨b.t,b.v,b.log.take k++[nth b.log k]⟩:ST).ok=true:=by
   rw[←zd hk]
   exact ST.mk_ok f1.1 f1.2 f2.1 f2.2 (zNe _ f3) (by rw[List.length_take];omega)
  have h1:=zPi hA hO
  rw[zG hk,List.map_cons,List.take_succ_cons]
  have h2:=zH1 (fs:=((b.log.drop (k+1)).map fun e=>PV.str (zPj e)).take j) h1
  rw[List.singleton_append] at h2
  rw[h2]
  simp only[←zd hk]
  rw[zXU hb eb j (k+1) (by omega)]
  have:k+1+j=k+(j+1):=by omega
  rw[this]
theorem zXS{a b:ST}(ha:a.ok=true)(hb:b.ok=true)(ht:a.t≤b.t)(ea:∀e∈a.log,isE e)(eb:∀e∈b.log,isE e)(j:Nat) :
  ∃s,zBK a ((zBR a b).take j)=(s,true)∧s.ok=true∧zWS a b s∧((zBR a b).length≤j→s=b):=by
 obtain⟨a1,a2,a3,a4⟩:=ST.facts ha
 obtain⟨b1,b2,b3,b4⟩:=ST.facts hb
 have hc:=zQf a.log b.log
 have hct:=zTs ea eb
 have hO1:(⟨b.t,b.v,a.log⟩:ST).ok=true:=ST.mk_ok b1.1 b1.2 b2.1 b2.2 (zSa ht a3) a4
 have hO2:(⟨b.t,b.v,b.log.take (zBk a.log b.log)⟩:ST).ok=true:=ST.mk_ok b1.1 b1.2 b2.1 b2.2 (zNe _ b3) (by rw[List.length_take];omega)
 have g1:zBK a (zIp a b)=(⟨b.t,b.v,a.log⟩,true):=by
  unfold zIp
  split
  ·rename_i h;simp[zBK,←h.1,←h.2]
  ·exact zPi (zZM b1.1 b1.2 b2.1 b2.2 ht) hO1
 have g2:zBK ⟨b.t,b.v,a.log⟩ (zJK a b)=(⟨b.t,b.v,b.log.take (zBk a.log b.log)⟩,true):=by
  unfold zJK
  split
  ·rename_i h
   have:=zZO (s:=⟨b.t,b.v,a.log⟩) h (by omega)
   simp only[hct] at this
   exact zPi this hO2
  ·have h:zBk a.log b.log=a.log.length:=by omega
   rw[←hct,h,List.take_length];simp[zBK]
 have l1:(zIp a b).length≤1:=by unfold zIp;split<;>simp
 have l2:(zJK a b).length≤1:=by unfold zJK;split<;>simp
 have l3:(zLp a b).length=b.log.length - zBk a.log b.log:=by simp[zLp]
 have hL:(zBR a b).length=(zIp a b).length+((zJK a b).length+(zLp a b).length):=by simp[zBR]
 by_cases c1:(zIp a b).length≤j
 ·by_cases c2:(zJK a b).length≤j - (zIp a b).length
  ·have hj:∃i,i≤b.log.length - zBk a.log b.log∧(zLp a b).take (j - (zIp a b).length - (zJK a b).length)=(zLp a b).take i∧((zBR a b).length≤j→i=b.log.length - zBk a.log b.log):=by
    by_cases c3:j - (zIp a b).length - (zJK a b).length≤b.log.length - zBk a.log b.log
    ·exact⟨_,c3,rfl,fun h=>by omega⟩
    ·exact⟨b.log.length - zBk a.log b.log,Nat.le_refl _,by rw[List.take_of_length_le (by omega),List.take_of_length_le (by omega)],fun _=>rfl⟩
   obtain⟨i,i1,i2,i3⟩:=hj
   refine⟨⟨b.t,b.v,b.log.take (zBk a.log b.log+i)⟩,?_,ST.mk_ok b1.1 b1.2 b2.1 b2.2 (zNe _ b3) (by rw[List.length_take];omega),.inr ⟨rfl,rfl,.inr ⟨zBk a.log b.log+i,by omega,by omega,rfl⟩⟩,fun h=>?_⟩
   ·rw[zBR,List.take_append,List.take_of_length_le c1,zH1 g1,List.take_append,List.take_of_length_le c2,zH1 g2,i2]
    exact zXU hb eb i _ (by omega)
   ·rw[i3 h]
    have:zBk a.log b.log+(b.log.length - zBk a.log b.log)=b.log.length:=by omega
    rw[this,List.take_length]
  ·refine⟨⟨b.t,b.v,a.log⟩,?_,hO1,.inr ⟨rfl,rfl,.inl rfl⟩,fun h=>by omega⟩
   have e:j - (zIp a b).length=0:=by omega
   rw[zBR,List.take_append,List.take_of_length_le c1,zH1 g1,List.take_append,e,List.take_zero,List.nil_append]
   have e2:0 - (zJK a b).length=0:=by omega
   rw[e2,List.take_zero];rfl
 ·have e:j=0:=by omega
  subst e
  exact⟨a,by simp[zBK],ha,.inl rfl,fun h=>by omega⟩
theorem zVT{a b:ST}(hb:b.ok=true):∀e∈zBR a b,∃d,e=.str d∧1≤d.length∧d.length≤1000:=by
 intro e he
 obtain⟨b1,b2,b3,b4⟩:=ST.facts hb
 simp only[zBR,List.mem_append] at he
 rcases he with he | he | he
 ·unfold zIp at he
  split at he
  ·simp at he
  ·refine⟨_,List.mem_singleton.1 he,?_,?_⟩<;>rw[zVU,zEn,zCF]<;>simp
 ·unfold zJK at he
  split at he
  ·refine⟨_,List.mem_singleton.1 he,?_,?_⟩<;>rw[zVV,zEn,zCF]<;>simp
  ·simp at he
 ·simp only[zLp,List.mem_map] at he
  obtain⟨x,hx,rfl⟩:=he
  have:=(zGR b3 x (List.mem_of_mem_drop hx)).1
  refine⟨_,rfl,?_,?_⟩<;>rw[zPj,zHc,zCF]<;>simp<;>omega
end
section
variable [zS]
def yP(b:List UInt8):ST × (List UInt8 × Int) × Int:=
 if (zBw b).2.2=8 then (ST.no,([],0),8) else if (zBK ST.one (zBw b).1).2=true then ((zBK ST.one (zBw b).1).1,(b.take (zBw b).2.1,(zBw b).2.1),0) else (ST.no,([],0),3)
def zEO(b:List UInt8)(sure:Int):ST × (List UInt8 × Int) × Int:=
 if (zBw b).2.2=8 then (ST.one,(b,sure),8) else if (zBK ST.one (zBw b).1).2=true then ((zBK ST.one (zBw b).1).1,(b.take (zBw b).2.1,(zBw b).2.1),0) else ((zBK ST.one (zBw b).1).1,(b,sure),3)
def zGk(b:List UInt8)(s:ST):Prop:=(zBw b).2.1=b.length∧zBK ST.one (zBw b).1=(s,true)
theorem zTi:∀(k:Nat) {b:List UInt8},b.length≤k→(zCB k b).2.1=b.length→(zCB k b).2.2=0
 | k,b,hk,h=>by
  by_cases hb:b=[]
  ·rw[hb,zFQ]
  have hp:0 < b.length:=List.length_pos_iff.2 hb
  obtain⟨k,rfl⟩:∃j,k=j+1:=⟨k - 1,by omega⟩
  have h0:=h
  rw[zCB] at h ⊢
  split
  ·rfl
  split
  ·rename_i h1 h2;rw[if_neg h1,if_pos h2] at h;simp only at h;omega
  split
  ·rename_i h1 h2 h3;rw[if_neg h1,if_neg h2,if_pos h3] at h;simp only at h;omega
  split
  ·rename_i h1 h2 h3 h4;rw[if_neg h1,if_neg h2,if_neg h3,if_pos h4] at h;simp only at h;omega
  split
  ·rename_i h1 h2 h3 h4 h5;rw[if_neg h1,if_neg h2,if_neg h3,if_neg h4,if_pos h5] at h;simp only at h;omega
  ·rename_i h1 h2 h3 h4 h5
   rw[if_neg h1,if_neg h2,if_neg h3,if_neg h4,if_neg h5] at h
   have hd:(b.drop (7+(zB6 (b.take 3)).toNat)).length=b.length - (7+(zB6 (b.take 3)).toNat):=List.length_drop
   have:=zPB k (b.drop (7+(zB6 (b.take 3)).toNat))
   simp only at h
   exact zTi k (by omega) (by omega)
theorem zWj{b:List UInt8}{s:ST}(h:zGk b s):(zBw b).2.2=0:=zTi _ (Nat.le_refl _) h.1
theorem zTf{b:List UInt8}{s:ST}(h:zGk b s):yP b=(s,(b,(b.length:Int)),0):=by
 rw[yP,zWj h,if_neg (by decide),h.2,if_pos rfl,h.1,List.take_length]
theorem zRy{b:List UInt8}(sure:Int)(h:(yP b).2.2=0):zEO b sure=yP b:=by
 unfold yP zEO at *
 split at h
 ·simp at h
 ·split at h
  ·rename_i h1 h2;rw[if_neg h1,if_pos h2,if_neg h1,if_pos h2]
  ·simp at h
theorem zTg{b:List UInt8}{s s':ST}{es:List PV}(h:zGk b s)(he:∀e∈es,zYO e)(hg:zBK s es=(s',true)):zGk (b++zLq es) s':=by
 have h1:=zUw b.length (b:=b) (t:=zLq es) (Nat.le_refl _) h.1
 have h2:=zSQ (es:=es) [] he
 have h3:zBw []=([],0,0):=by simp[zBw,zCB]
 rw[List.append_nil,h3,List.append_nil] at h2
 rw[h2] at h1
 have hf:(zBw (b++zLq es)).1=(zBw b).1++es:=by rw[h1];rfl
 refine⟨by rw[h1,List.length_append];rfl,?_⟩
 rw[hf,zH1 h.2,hg]
theorem zYj{b:List UInt8}{a c:ST}(h:zGk b a)(ha:a.ok=true)(hc:c.ok=true)(ht:a.t≤c.t)(ea:∀e∈a.log,isE e)(ec:∀e∈c.log,isE e){n:Nat}(hn:n≤(zLq (zBR a c)).length) :
  ∃s j,yP (b++(zLq (zBR a c)).take n)=(s,(b++zLq ((zBR a c).take j),((b++zLq ((zBR a c).take j)).length:Int)),0)∧zGk (b++zLq ((zBR a c).take j)) s∧s.ok=true∧zWS a c s∧(b++zLq ((zBR a c).take j)).length≤b.length+n∧zBK a ((zBR a c).take j)=(s,true):=by
 have hF:∀e∈zBR a c,zYO e:=fun e he=>by
  obtain⟨d,q1,q2,q3⟩:=zVT hc e he
  exact⟨d,q1,q2,by omega⟩
 obtain⟨j,p,j1,j2,p1,p2,p3⟩:=zTp hF hn
 obtain⟨s,s1,s2,s3,_⟩:=zXS ha hc ht ea ec j
 have hT:∀e∈(zBR a c).take j,zYO e:=fun e he=>hF e (List.mem_of_mem_take he)
 have hH:=zTg h hT s1
 have h1:=zUw b.length (b:=b) (t:=zLq ((zBR a c).take j)++p) (Nat.le_refl _) h.1
 have h2:=zSQ p hT
 rw[h2,p1,p2,List.append_nil,Nat.add_zero] at h1
 have hf1:(zBw (b++(zLq ((zBR a c).take j)++p))).1=(zBw b).1++(zBR a c).take j:=by rw[h1];rfl
 have hf2:(zBw (b++(zLq ((zBR a c).take j)++p))).2.1=b.length+(zLq ((zBR a c).take j)).length:=by rw[h1]
 have hf3:(zBw (b++(zLq ((zBR a c).take j)++p))).2.2=(zBw p).2.2:=by rw[h1]
 have hg:zBK ST.one (zBw (b++(zLq ((zBR a c).take j)++p))).1=(s,true):=by rw[hf1,zH1 h.2,s1]
 refine⟨s,j,?_,hH,s2,s3,?_,s1⟩
 ·rw[j2,yP,hf3,if_neg (by rcases p3 with q | q<;>rw[q]<;>decide),hg,if_pos rfl,hf2]
  have:b++(zLq ((zBR a c).take j)++p)=(b++zLq ((zBR a c).take j))++p:=by simp
  rw[this,List.take_append_of_le_length (by rw[List.length_append];omega),List.take_of_length_le (by rw[List.length_append];omega),List.length_append]
 ·have:(zLq (zBR a c)).take n=zLq ((zBR a c).take j)++p:=j2
  have hl:((zLq (zBR a c)).take n).length=n:=by rw[List.length_take];omega
  rw[this,List.length_append] at hl
  rw[List.length_append];omega
def zIt:List UInt8→List PV→List UInt8 × Bool
 | b,[]=>(b,true)
 | b,e :: es=>if (b++zMn e.S).length > 60000 then (b++zMn e.S,false) else zIt (b++zMn e.S) es
theorem zPO:∀{es:List PV} {b:List UInt8},(zIt b es).2=true→(zIt b es).1=b++zLq es∧(b.length≤60000→(b++zLq es).length≤60000)
 | [],b,_=>by simp[zIt,zPC]
 | e :: es,b,h=>by
  rw[zIt] at h ⊢
  split at h
  ·cases h
  ·rename_i h1
   rw[if_neg h1]
   have ih:=zPO h
   rw[zNf,←List.append_assoc]
   exact⟨ih.1,fun _=>ih.2 (by omega)⟩
def zU2(l sure keep:Int):Nat:=(sure+mxI 0 (mnI keep (l - sure))).toNat
def ST.wk(s:ST):Prop:=(0≤s.t∧s.t≤2000)∧(-1≤s.v∧s.v≤100)∧s.log.length≤100∧∀e∈s.log,isE e∧(0≤(nth e.A 0).I∧(nth e.A 0).I≤2000)∧(nth e.A 1).S.length≤1000
end
end Go.Proofs.YthogljppoiekaaaGreat
