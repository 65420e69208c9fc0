/-
  Part 17: contracts of functions, and the laws by which they are proved.
  Conditions: none.
-/
import Derived.Test.YthogljppoiekaaaGreatW14
import Derived.Test.YthogljppoiekaaaGreatW16
set_option linter.unusedVariables false
set_option linter.unusedSimpArgs false
set_option linter.unusedSectionVars false
set_option maxRecDepth 100000
namespace Go.Proofs.YthogljppoiekaaaGreat
section
variable [zS]
def zMR(t:Int)(es:List PV):Prop:=∀j,j < es.length→(nth (nth es j).A 0).I≤t∧∀i,i≤j→(nth (nth es i).A 0).I≤(nth (nth es j).A 0).I
theorem zTn{t:Int}:∀{es:List PV} {p:Int},zIr t p es=true→∀j,j < es.length→p≤(nth (nth es j).A 0).I∧(nth (nth es j).A 0).I≤t∧∀i,i≤j→(nth (nth es i).A 0).I≤(nth (nth es j).A 0).I
 | [],p,h,j,hj=>by simp at hj
 | e :: es,p,h,j,hj=>by
  simp only[zIr,Bool.and_eq_true,leB,inB,decide_eq_true_eq] at h
  obtain⟨⟨⟨h1,h2⟩,h3⟩,h4⟩:=h
  cases j with
  | zero=>
   rw[zE]
   refine⟨h3,h2.2,fun i hi=>?_⟩
   have:i=0:=by omega
   subst this
   rw[zE];exact Int.le_refl _
  | succ j=>
   obtain⟨a1,a2,a3⟩:=zTn h4 j (by simpa using hj)
   rw[zF]
   refine⟨Int.le_trans h3 a1,a2,fun i hi=>?_⟩
   cases i with
   | zero=>rw[zE];exact a1
   | succ i=>rw[zF];exact a3 i (by omega)
theorem zKP{t p:Int}{es:List PV}(h:zIr t p es=true):zMR t es:=fun j hj=>(zTn h j hj).2
theorem zbV{t t':Int}{es:List PV}(h:zMR t es)(ht:t≤t'):zMR t' es:=fun j hj=>⟨Int.le_trans (h j hj).1 ht,(h j hj).2⟩
theorem zEd{a b:List PV}{i:Nat}(h:i < a.length):nth (a++b) i=nth a i:=by simp[nth,List.getElem?_append_left h]
theorem zF2{a:List PV}{x:PV}:nth (a++[x]) a.length=x:=by simp[nth]
theorem zXz{t:Int}{es:List PV}(h:zMR t es):zMR t (yq t es):=by
 unfold yq
 split
 ·intro j hj
  rw[List.length_append,List.length_singleton] at hj
  by_cases h1:j < es.length
  ·rw[zEd h1]
   exact⟨(h j h1).1,fun i hi=>by rw[zEd (by omega)];exact(h j h1).2 i hi⟩
  ·have:j=es.length:=by omega
   subst this
   rw[zF2]
   refine⟨Int.le_refl _,fun i hi=>?_⟩
   by_cases h2:i < es.length
   ·rw[zEd h2];exact(h i h2).1
   ·have:i=es.length:=by omega
    subst this
    rw[zF2];exact Int.le_refl _
 ·exact h
theorem zT5{n:ND}(hm:zMR n.term n.log)(h0:0≤n.com):∀{p:Nat},p≤n.log.length→zCI n.log p≠n.term→zGi n p=n.com
 | 0,_,_=>rfl
 | p+1,hp,ht=>by
  by_cases h1:((p+1:Nat):Int)≤n.com
  ·exact zSi h1 h0
  ·rw[zVD (by omega) h0,if_neg (fun h=>ht h.1),Nat.add_sub_cancel]
   cases p with
   | zero=>rfl
   | succ p=>
    refine zT5 hm h0 (by omega) ?_
    have e1:zCI n.log ((p+1+1:Nat):Int)=(nth (nth n.log (p+1)).A 0).I:=by
     have e:(((p+1+1:Nat):Int) - 1).toNat=p+1:=by omega
     rw[zCI,if_neg (by omega),e]
    have e2:zCI n.log ((p+1:Nat):Int)=(nth (nth n.log p).A 0).I:=by
     have e:(((p+1:Nat):Int) - 1).toNat=p:=by omega
     rw[zCI,if_neg (by omega),e]
    rw[e1] at ht
    rw[e2]
    have:=hm (p+1) (by omega)
    have:=this.2 p (by omega)
    omega
def zDI:zJ:=⟨[(.bx,.box [.int .i64,.int .i64,.int .i64,.int .i64,.int .i64,.bool,.list (.agg [.int .i64,.str]),.int .i64,.int .i64,.int .i64,.list (.int .i64),.list (.int .i64),.list (.int .i64),.list (.agg [.int .i64,.int .i64,.int .i64,.int .i64,.int .i64,.int .i64,.int .i64,.bool,.list (.agg [.int .i64,.str])])])],[],true,fun ps=>0≤(nth (nth ps 0).A 7).I∧((nth (nth ps 0).A 12).L.length:Int)=(nth (nth ps 0).A 1).I∧(nth (nth ps 0).A 1).I≤5∧(nth (nth ps 0).A 6).L.length≤1024∧zMR (nth (nth ps 0).A 2).I (nth (nth ps 0).A 6).L,fun _=>[],
 fun ps=>[.agg [nth (nth ps 0).A 0,nth (nth ps 0).A 1,nth (nth ps 0).A 2,nth (nth ps 0).A 3,nth (nth ps 0).A 4,nth (nth ps 0).A 5,nth (nth ps 0).A 6,.int .i64 (zGi (z8 (nth ps 0).A) (nth (nth ps 0).A 6).L.length),nth (nth ps 0).A 8,nth (nth ps 0).A 9,nth (nth ps 0).A 10,nth (nth ps 0).A 11,nth (nth ps 0).A 12,nth (nth ps 0).A 13]]⟩
theorem zOA:zh Tryz.prog 143 zDI:=by
 refine zP [0,2,3,4] [] (zA (cs:=[]) zZe (zD (zB []))) mixed Tryz.func143 rfl (by decide) rfl (by decide) rfl ?_
 intro ps hT hpre W hW
 simp only[zDI,TyA,Ty,Tys] at hT hpre
 obtain⟨_,_,rfl,⟨_,rfl,_,_,rfl,⟨n0,rfl,hn0⟩,_,_,rfl,⟨n1,rfl,hn1⟩,_,_,rfl,⟨n2,rfl,hn2⟩,_,_,rfl,⟨n3,rfl,hn3⟩,_,_,rfl,⟨n4,rfl,hn4⟩,_,_,rfl,⟨u,rfl⟩,_,_,rfl,⟨es,rfl,hes,tes⟩,_,_,rfl,⟨n5,rfl,hn5⟩,_,_,rfl,⟨n6,rfl,hn6⟩,_,_,rfl,⟨n7,rfl,hn7⟩,_,_,rfl,⟨vs,rfl,hvs,tvs⟩,_,_,rfl,⟨xs,rfl,hxs,txs⟩,_,_,rfl,⟨ms,rfl,hms,tms⟩,_,_,rfl,⟨out,rfl,hout,tout⟩,rfl⟩,rfl⟩:=hT
 simp only[zE,zF,yp,zAA,zBE] at hpre
 refine hW.vc [(1,[],tkN [0,1,2,3,4,5,6,7,8,9,10,11,12,13,14,15,16,17,18,19,20,21,22,23,24] .done)] _ _ ?_
 simp[-List.getD_eq_getElem?_getD,zDI,zJA,zQk,zQk,z8]
 obtain⟨p1,p2,p3,p4,p5⟩:=hpre
 obtain⟨nd,hnd⟩:∃nd:ND,nd=⟨n0,n1,n2,n3,n4,u,es,n5,n6,n7,vs,xs,ms⟩:=⟨_,rfl⟩
 have hc:nd.com=n5:=by rw[hnd]
 have hl:nd.log=es:=by rw[hnd]
 have ht:nd.term=n2:=by rw[hnd]
 have hn:nd.nodes=n1:=by rw[hnd]
 have hi:nd.id=n0:=by rw[hnd]
 have hm:nd.ms=ms:=by rw[hnd]
 refine fun _=>hW.loopS _ _ _ [.sl 2 .dp (.int .i64)] (fun ys=>∃p:Nat,ys=[.int .i64 p]∧p≤es.length∧zGi nd es.length=zGi nd p) (fun ys=>(nth ys 0).I.toNat) ?_ ?_
 ·simp[-List.getD_eq_getElem?_getD,zDI,zJA,zQk]
  exact⟨_,rfl,by omega,rfl⟩
 ·rintro ys ⟨p,rfl,g1,g2⟩
  refine hW.vc [(1,[],tkN [0,1,2,3,4,5,6,7,8,9,10,11,12,13,14,15,16,17,18,19,20,21,22,23,24] .done)] _ _ ?_
  simp[-List.getD_eq_getElem?_getD,zDI,zJA,zQk,zQk,z8]
  have hu:n5 < p→zGi nd p=if zCI es p=n2∧n1 < 2*zLr n0 p ms ms.length then (p:Int) else zGi nd (p - 1):=fun h=>by
   rw[zVD (by rw[hc];exact h) (by rw[hc];exact p1),hl,ht,hn,hi,hm]
  have hw:n5 < p→IntKind.i64.wrap ((p:Int) - 1)=((p - 1:Nat):Int):=fun h=>by rw[zC (by omega)];omega
  have hw':n5 < p→(IntKind.i64.wrap ((p:Int) - 1)).toNat=p - 1:=fun h=>by rw[hw h];rfl
  have htm:n5 < p→zCI es p=(nth (nth es (p - 1)).A 0).I:=fun h=>by
   have e:(((p:Nat):Int) - 1).toNat=p - 1:=by omega
   rw[zCI,if_neg (by omega),e]
  rw[←hnd]
  refine⟨by decide +kernel,fun h=>⟨h,by rw[hw h];omega⟩,fun h=>⟨h,by rw[hw' h];omega⟩,fun _=>⟨fun g3 g4=>?_,fun g3=>?_⟩⟩
  ·rw[hw' g3,←htm g3] at g4
   refine hW.loopS _ _ _ [.sl 4 .dp (.int .i64),.sl 3 .dp (.int .i64)] (fun ys=>∃i:Nat,ys=[.int .i64 i,.int .i64 (zLr n0 p ms i)]∧i≤ms.length) (fun ys=>ms.length - (nth ys 0).I.toNat) ?_ ?_
   ·simp[-List.getD_eq_getElem?_getD,zDI,zJA,zQk]
    exact⟨0,⟨rfl,rfl⟩,by omega⟩
   ·rintro ys ⟨i,rfl,q1⟩
    refine hW.vc [(1,[],tkN [0,1,2,3,4,5,6,7,8,9,10,11,12,13,14,15,16,17,18,19,20,21,22,23,24] .done)] _ _ ?_
    simp[-List.getD_eq_getElem?_getD,zDI,zJA,zQk,zQk,z8]
    have hb:=zSd n0 p ms i
    have hb1:=zSd n0 p ms (i+1)
    have hn':zLr n0 p ms (i+1)=zLr n0 p ms i+zdv (!decide ((i:Int)=n0)&&decide ((p:Int)≤(nth ms i).I)):=by
     rw[zLr]
     by_cases h1:(i:Int)=n0
     ·simp[h1,zdv]
     ·by_cases h2:(p:Int)≤(nth ms i).I
      ·simp[h1,h2,zdv]
      ·simp[h1,h2,zdv]
    rw[←hnd,g2]
    refine⟨fun q2=>⟨fun a=>⟨a,by omega⟩,fun _=>⟨⟨i+1,⟨zC (by omega),by rw[←hn',zC (by omega)]⟩,by omega⟩,by rw[zC (by omega)];omega⟩⟩,fun q2=>?_⟩
    have:i=ms.length:=by omega
    subst this
    rw[zC (n:=2*_) (by omega)]
    refine⟨fun b=>by rw[hu g3,if_pos ⟨g4,b⟩],fun b=>⟨⟨p - 1,hw g3,by omega,by rw[hu g3,if_neg (fun h=>by omega)]⟩,by rw[hw' g3];omega⟩⟩
  ·rw[g2]
   by_cases h5:n5 < p
   ·have:=g3 h5
    rw[hw' h5,←htm h5] at this
    rw[zT5 (by rw[ht,hl];exact p5) (by rw[hc];exact p1) (by rw[hl];exact g1) (by rw[hl,ht];exact this),hc]
   ·rw[zSi (by rw[hc];omega) (by rw[hc];exact p1),hc]
theorem zRx{x:PV}{xs:List PV}{i:Nat}(h:i < xs.length):List.replicate i x++(xs.drop i).set 0 x=List.replicate (i+1) x++xs.drop (i+1):=by
 rw[zG h,List.set_cons_zero,List.replicate_succ',List.append_assoc];rfl
def ND.rv(n:ND)(out:List PV):PV:=.agg [.int .i64 n.id,.int .i64 n.nodes,.int .i64 n.term,.int .i64 n.vote,.int .i64 n.role,.bool n.up,.list n.log,.int .i64 n.com,.int .i64 n.ela,.int .i64 n.wt,.list n.vs,.list n.nx,.list n.ms,.list out]
def zXJ(n:ND):Prop:=zX2 n∧(n.nx.length:Int)=n.nodes∧(n.ms.length:Int)=n.nodes∧zMR n.term n.log
def zG0:zJ:=⟨[(.bx,.box [.int .i64,.int .i64,.int .i64,.int .i64,.int .i64,.bool,.list (.agg [.int .i64,.str]),.int .i64,.int .i64,.int .i64,.list (.int .i64),.list (.int .i64),.list (.int .i64),.list (.agg [.int .i64,.int .i64,.int .i64,.int .i64,.int .i64,.int .i64,.int .i64,.bool,.list (.agg [.int .i64,.str])])])],[],true,fun ps=>zXJ (z8 (nth ps 0).A)∧(nth (nth ps 0).A 13).L.length≤990,fun _=>[],
 fun ps=>[(zCm (z8 (nth ps 0).A)).rv ((nth (nth ps 0).A 13).L++zAx (zCm (z8 (nth ps 0).A)) (nth (nth ps 0).A 1).I.toNat)]⟩
theorem zX3:zh Tryz.prog 212 zG0:=by
 refine zP [0,2] [] (zA (cs:=[]) zbo (zA (cs:=[]) zOA (zD (zB [])))) mixed Tryz.func212 rfl (by decide) rfl (by decide) rfl ?_
 intro ps hT hpre W hW
 simp only[zG0,TyA,Ty,Tys] at hT hpre
 obtain⟨_,_,rfl,⟨_,rfl,_,_,rfl,⟨n0,rfl,hn0⟩,_,_,rfl,⟨n1,rfl,hn1⟩,_,_,rfl,⟨n2,rfl,hn2⟩,_,_,rfl,⟨n3,rfl,hn3⟩,_,_,rfl,⟨n4,rfl,hn4⟩,_,_,rfl,⟨u,rfl⟩,_,_,rfl,⟨es,rfl,hes,tes⟩,_,_,rfl,⟨n5,rfl,hn5⟩,_,_,rfl,⟨n6,rfl,hn6⟩,_,_,rfl,⟨n7,rfl,hn7⟩,_,_,rfl,⟨vs,rfl,hvs,tvs⟩,_,_,rfl,⟨xs,rfl,hxs,txs⟩,_,_,rfl,⟨ms,rfl,hms,tms⟩,_,_,rfl,⟨out,rfl,hout,tout⟩,rfl⟩,rfl⟩:=hT
 simp only[zE,zF,yp,zAA,zBE,zNq,z8] at hpre
 refine hW.vc [(5,[14],tkN [0,1,2,3,4,5,6,7,8,9,10,11,12,13] (alS 14 .done)),(8,[13,17],tkN [0,1,2,3,4,5,6,7,8,9,10,11] (alN [12,13] (tkN [14,15,16] (alS 17 .done))))] _ _ ?_
 simp[-List.getD_eq_getElem?_getD,zG0,zDI,zQ9,z8,ND.rv]
 have hk:=zVk hpre.1.1
 obtain⟨⟨⟨p1,p2,p3,p4⟩,p5,p6,p7⟩,p8⟩:=hpre
 simp only at p1 p2 p3 p4 p5 p6 p7
 have hA:es.length < 60→zCm ⟨n0,n1,n2,n3,n4,u,es,n5,n6,n7,vs,xs,ms⟩=⟨n0,n1,n2,n3,2,u,es++[.agg [.int .i64 n2,.str []]],
    zGi ⟨n0,n1,n2,n3,2,u,es++[.agg [.int .i64 n2,.str []]],n5,0,n7,vs,List.replicate n1.toNat (.int .i64 (es.length+1)),List.replicate n1.toNat (.int .i64 0)⟩ (es.length+1),0,n7,vs,
    List.replicate n1.toNat (.int .i64 (es.length+1)),List.replicate n1.toNat (.int .i64 0)⟩:=fun h'=>by
  simp only[zCm,zD6,yq,if_pos h',List.length_append,List.length_singleton]
 have hA':¬es.length < 60→zCm ⟨n0,n1,n2,n3,n4,u,es,n5,n6,n7,vs,xs,ms⟩=⟨n0,n1,n2,n3,2,u,es,
    zGi ⟨n0,n1,n2,n3,2,u,es,n5,0,n7,vs,List.replicate n1.toNat (.int .i64 (es.length+1)),List.replicate n1.toNat (.int .i64 0)⟩ es.length,0,n7,vs,
    List.replicate n1.toNat (.int .i64 (es.length+1)),List.replicate n1.toNat (.int .i64 0)⟩:=fun h'=>by
  simp only[zCm,zD6,yq,if_neg h']
 have hmo:=zXz p7
 obtain⟨LA,hLA⟩:∃LA:ND,LA=zCm ⟨n0,n1,n2,n3,n4,u,es,n5,n6,n7,vs,xs,ms⟩:=⟨_,rfl⟩
 rw[←hLA] at hA hA' hk
 refine hW.loopS _ _ _ [.bx 0 [.int .i64,.int .i64,.int .i64,.int .i64,.int .i64,.bool,.list (.agg [.int .i64,.str]),.int .i64,.int .i64,.int .i64,.list (.int .i64),.list (.int .i64),.list (.int .i64),.list (.agg [.int .i64,.int .i64,.int .i64,.int .i64,.int .i64,.int .i64,.int .i64,.bool,.list (.agg [.int .i64,.str])])],.sl 2 .dp (.int .i64)] (fun ys=>∃i:Nat,ys=[.agg [.int .i64 n0,.int .i64 n1,.int .i64 n2,.int .i64 n3,.int .i64 2,.bool u,.list es,.int .i64 n5,.int .i64 0,.int .i64 n7,.list vs,.list (List.replicate i (.int .i64 (es.length+1))++xs.drop i),.list (List.replicate i (.int .i64 0)++ms.drop i),.list out],.int .i64 i]∧(i:Int)≤n1) (fun ys=>n1.toNat - (nth ys 1).I.toNat) ?_ ?_
 ·simp[-List.getD_eq_getElem?_getD,zG0,zDI,zQ9]
  exact⟨0,⟨⟨by simp,by simp⟩,rfl⟩,by omega⟩
 ·rintro ys ⟨i,rfl,g1⟩
  refine hW.vc [(5,[14],tkN [0,1,2,3,4,5,6,7,8,9,10,11,12,13] (alS 14 .done)),(8,[13,17],tkN [0,1,2,3,4,5,6,7,8,9,10,11] (alN [12,13] (tkN [14,15,16] (alS 17 .done))))] _ _ ?_
  simp[-List.getD_eq_getElem?_getD,zG0,zDI,zQ9,z8,ND.rv]
  rw[zC (n:=(es.length:Int)+1) (by omega),zC (n:=(i:Int)+1) (by omega)]
  refine⟨fun g2=>⟨by decide +kernel,fun _=>⟨by omega,by omega,by omega,by omega,⟨i+1,⟨⟨zRx (by omega),zRx (by omega)⟩,rfl⟩,by omega⟩,by omega⟩⟩,fun g2 _=>?_⟩
  have hi:i=n1.toNat:=by omega
  have d1:xs.drop i=[]:=List.drop_eq_nil_of_le (by omega)
  have d2:ms.drop i=[]:=List.drop_eq_nil_of_le (by omega)
  have d3:(i:Int)+((ms.length - i:Nat):Int)=n1:=by omega
  rw[d1,d2,d3,List.append_nil,List.append_nil,←hLA]
  clear d1 d2 d3
  subst hi
  refine⟨fun h=>?_,fun h=>?_⟩
  ·have h':es.length < 60:=by omega
   rw[yq,if_pos h'] at hmo
   rw[hA h'] at hk ⊢
   exact⟨by decide +kernel,by omega,fun _=>⟨⟨p3,rfl,p2,by omega,hmo⟩,⟨p8,hk⟩,rfl,rfl,rfl,rfl,rfl,rfl,rfl,rfl,rfl,rfl,rfl,rfl,rfl,rfl⟩⟩
  ·have h':¬es.length < 60:=by omega
   rw[yq,if_neg h'] at hmo
   rw[hA' h'] at hk ⊢
   exact⟨⟨p3,rfl,p2,by omega,hmo⟩,⟨p8,hk⟩,rfl,rfl,rfl,rfl,rfl,rfl,rfl,rfl,rfl,rfl,rfl,rfl,rfl,rfl⟩
theorem NdF.ela'{n:ND}(h:NdF n):NdF (zSb n):=by
 have h0:=h.e0
 have h1:=h.e1
 have e:0≤(zSb n).ela∧(zSb n).ela≤1000:=by simp only[zSb];split<;>omega
 exact⟨h.n1,h.n5,h.i0,h.i1,h.t0,h.t1,h.en,h.l6,h.r0,h.r2,h.ur,h.c0,h.c1,e.1,e.2,h.w5,h.w1,h.nx,h.ms,h.vo,h.nm,h.vt⟩
def zOM:zJ:=⟨[(.bx,.box [.int .i64,.int .i64,.int .i64,.int .i64,.int .i64,.bool,.list (.agg [.int .i64,.str]),.int .i64,.int .i64,.int .i64,.list (.int .i64),.list (.int .i64),.list (.int .i64),.list (.agg [.int .i64,.int .i64,.int .i64,.int .i64,.int .i64,.int .i64,.int .i64,.bool,.list (.agg [.int .i64,.str])])]),(.rd,.int .i64)],[],true,fun ps=>NdF (z8 (nth ps 0).A)∧(nth (nth ps 0).A 2).I≤999∧0≤(nth ps 1).I∧(nth ps 1).I≤1000000∧(nth (nth ps 0).A 13).L.length≤900,fun _=>[],
 fun ps=>[(zEH (z8 (nth ps 0).A) (nth ps 1).I).1.rv ((nth (nth ps 0).A 13).L++(zEH (z8 (nth ps 0).A) (nth ps 1).I).2)]⟩
theorem zbj:zh Tryz.prog 180 zOM:=by
 refine zP [0,1,4] [] (zA (cs:=[]) zVn (zA (cs:=[]) zNT (zA (cs:=[]) zX3 (zD (zB []))))) mixed Tryz.func180 rfl (by decide) rfl (by decide) rfl ?_
 intro ps hT hpre W hW
 simp only[zOM,TyA,Ty,Tys] at hT hpre
 obtain⟨_,_,rfl,⟨_,rfl,_,_,rfl,⟨n0,rfl,hn0⟩,_,_,rfl,⟨n1,rfl,hn1⟩,_,_,rfl,⟨n2,rfl,hn2⟩,_,_,rfl,⟨n3,rfl,hn3⟩,_,_,rfl,⟨n4,rfl,hn4⟩,_,_,rfl,⟨u,rfl⟩,_,_,rfl,⟨es,rfl,hes,tes⟩,_,_,rfl,⟨n5,rfl,hn5⟩,_,_,rfl,⟨n6,rfl,hn6⟩,_,_,rfl,⟨n7,rfl,hn7⟩,_,_,rfl,⟨vs,rfl,hvs,tvs⟩,_,_,rfl,⟨xs,rfl,hxs,txs⟩,_,_,rfl,⟨ms,rfl,hms,tms⟩,_,_,rfl,⟨out,rfl,hout,tout⟩,rfl⟩,_,_,rfl,⟨d,rfl,hd⟩,rfl⟩:=hT
 simp only[zE,zF,yp,zAA,zBE,zNq,z8] at hpre
 refine hW.vc [(12,[20],tkN [0,1,2,3,4,5,6,7,8,9,10,11,12,13,14,15,16,17] (alS 18 (tkN [19] (alS 20 .done))))] _ _ ?_
 simp[-List.getD_eq_getElem?_getD,zOM,zG0,zEs,zLR,z8,ND.rv]
 obtain⟨hF,q0,q1,q2,q3⟩:=hpre
 have f1:1≤n1∧n1≤5∧0≤n0∧n0≤n1 - 1∧0≤n2∧n2≤1000∧es.length≤60∧0≤n5∧0≤n6∧n6≤1000:=⟨hF.n1,hF.n5,hF.i0,hF.i1,hF.t0,hF.t1,hF.l6,hF.c0,hF.e0,hF.e1⟩
 have ht:0≤d.tmod 8∧d.tmod 8 < 8:=⟨Int.tmod_nonneg _ q1,Int.tmod_lt_of_pos _ (by omega)⟩
 have e2:IntKind.i64.wrap (n2+1)=n2+1:=zC (by omega)
 have e3:IntKind.i64.wrap (5+d.tmod 8)=5+d.tmod 8:=zC (by omega)
 obtain⟨nd,hnd⟩:∃nd:ND,nd=⟨n0,n1,n2,n3,n4,u,es,n5,n6,n7,vs,xs,ms⟩:=⟨_,rfl⟩
 rw[e2,e3,←hnd]
 refine⟨fun h=>?_,fun h=>?_⟩
 ·have hR:zEH nd d=(zCm (zBf nd d),zAx (zCm (zBf nd d)) nd.nodes.toNat):=by rw[zEH,if_pos (by rw[hnd];exact h)]
  rw[hR,hnd]
  exact⟨⟨⟨⟨hF.n1,hF.n5,hF.c0,hF.l6⟩,hF.nx,hF.ms,zbV (zKP hF.en) (by show n2≤n2+1;omega)⟩,by omega⟩,rfl,rfl,rfl,rfl,rfl,rfl,rfl,rfl,rfl,rfl,rfl,rfl,rfl,rfl⟩
 ·have hR:zEH nd d=(zBf nd d,zAl (zBf nd d) nd.nodes.toNat):=by rw[zEH,if_neg (by rw[hnd];exact h)]
  have hS:zBf nd d=⟨n0,n1,n2+1,n0,1,u,es,n5,0,5+d.tmod 8,[.int .i64 n0],xs,ms⟩:=by rw[hnd];rfl
  have hN:nd.nodes=n1:=by rw[hnd]
  obtain⟨sd,hsd⟩:∃sd:ND,sd=zBf nd d:=⟨_,rfl⟩
  rw[←hsd] at hR hS
  refine hW.loopS _ _ _ [.bx 0 [.int .i64,.int .i64,.int .i64,.int .i64,.int .i64,.bool,.list (.agg [.int .i64,.str]),.int .i64,.int .i64,.int .i64,.list (.int .i64),.list (.int .i64),.list (.int .i64),.list (.agg [.int .i64,.int .i64,.int .i64,.int .i64,.int .i64,.int .i64,.int .i64,.bool,.list (.agg [.int .i64,.str])])],.sl 4 .dp (.int .i64)] (fun ys=>∃i:Nat,ys=[.agg [.int .i64 n0,.int .i64 n1,.int .i64 (n2+1),.int .i64 n0,.int .i64 1,.bool u,.list es,.int .i64 n5,.int .i64 0,.int .i64 (5+d.tmod 8),.list [.int .i64 n0],.list xs,.list ms,.list (out++zAl sd i)],.int .i64 i]∧(i:Int)≤n1) (fun ys=>n1.toNat - (nth ys 1).I.toNat) ?_ ?_
  ·simp[-List.getD_eq_getElem?_getD,zOM,zG0,zEs,zLR]
   exact⟨0,⟨by simp[zAl],rfl⟩,by omega⟩
  ·rintro ys ⟨i,rfl,g1⟩
   refine hW.vc [(12,[20],tkN [0,1,2,3,4,5,6,7,8,9,10,11,12,13,14,15,16,17] (alS 18 (tkN [19] (alS 20 .done))))] _ _ ?_
   simp[-List.getD_eq_getElem?_getD,zOM,zG0,zEs,zLR,z8,ND.rv]
   have hl:=zMA sd i
   rw[zC (n:=(i:Int)+1) (by omega)]
   refine⟨fun g2=>⟨fun g3=>⟨by decide +kernel,fun _=>⟨by omega,⟨i+1,⟨?_,rfl⟩,by omega⟩,by omega⟩⟩,fun g3=>⟨⟨i+1,⟨?_,rfl⟩,by omega⟩,by omega⟩⟩,fun g2=>?_⟩
   ·rw[zAl,if_neg (by rw[hS];exact g3),hS];rfl
   ·rw[zAl,if_pos (by rw[hS];exact g3),List.append_nil]
   ·have:i=n1.toNat:=by omega
    rw[←hnd,hR,hN,this,hS]
    exact⟨rfl,rfl,rfl,rfl,rfl,rfl,rfl,rfl,rfl,rfl,rfl,rfl,rfl,rfl⟩
def zSe:zJ:=⟨[(.bx,.box [.int .i64,.int .i64,.int .i64,.int .i64,.int .i64,.bool,.list (.agg [.int .i64,.str]),.int .i64,.int .i64,.int .i64,.list (.int .i64),.list (.int .i64),.list (.int .i64),.list (.agg [.int .i64,.int .i64,.int .i64,.int .i64,.int .i64,.int .i64,.int .i64,.bool,.list (.agg [.int .i64,.str])])]),(.rd,.int .i64)],[],true,fun ps=>NdF (z8 (nth ps 0).A)∧0≤(nth ps 1).I∧(nth ps 1).I≤1000000∧(nth (nth ps 0).A 13).L.length≤900,fun _=>[],
 fun ps=>[(zBD (z8 (nth ps 0).A) (nth ps 1).I).1.rv ((nth (nth ps 0).A 13).L++(zBD (z8 (nth ps 0).A) (nth ps 1).I).2)]⟩
theorem zbl:zh Tryz.prog 142 zSe:=by
 refine zP [0,1] [] (zA (cs:=[]) zbj (zA (cs:=[]) zbo (zD (zB [])))) mixed Tryz.func142 rfl (by decide) rfl (by decide) rfl ?_
 intro ps hT hpre W hW
 simp only[zSe,TyA,Ty,Tys] at hT hpre
 obtain⟨_,_,rfl,⟨_,rfl,_,_,rfl,⟨n0,rfl,hn0⟩,_,_,rfl,⟨n1,rfl,hn1⟩,_,_,rfl,⟨n2,rfl,hn2⟩,_,_,rfl,⟨n3,rfl,hn3⟩,_,_,rfl,⟨n4,rfl,hn4⟩,_,_,rfl,⟨u,rfl⟩,_,_,rfl,⟨es,rfl,hes,tes⟩,_,_,rfl,⟨n5,rfl,hn5⟩,_,_,rfl,⟨n6,rfl,hn6⟩,_,_,rfl,⟨n7,rfl,hn7⟩,_,_,rfl,⟨vs,rfl,hvs,tvs⟩,_,_,rfl,⟨xs,rfl,hxs,txs⟩,_,_,rfl,⟨ms,rfl,hms,tms⟩,_,_,rfl,⟨out,rfl,hout,tout⟩,rfl⟩,_,_,rfl,⟨d,rfl,hd⟩,rfl⟩:=hT
 simp only[zE,zF,yp,zAA,zBE,zNq,z8] at hpre
 refine hW.vc [(5,[],tkN [0,1,2,3,4,5,6,7,8,9,10,11,12,13,14,15,16,17,18] .done)] _ _ ?_
 simp[-List.getD_eq_getElem?_getD,zSe,zQ9,zOM,z8,ND.rv]
 obtain⟨hF,q1,q2,q3⟩:=hpre
 have f1:1≤n1∧n1≤5∧0≤n0∧n0≤n1 - 1∧0≤n2∧n2≤1000∧es.length≤60∧0≤n5∧0≤n6∧n6≤1000:=⟨hF.n1,hF.n5,hF.i0,hF.i1,hF.t0,hF.t1,hF.l6,hF.c0,hF.e0,hF.e1⟩
 have e1:IntKind.i64.wrap (n6+1)=n6+1:=zC (by omega)
 obtain⟨nd,hnd⟩:∃nd:ND,nd=⟨n0,n1,n2,n3,n4,u,es,n5,n6,n7,vs,xs,ms⟩:=⟨_,rfl⟩
 have hF2:NdF (zSb nd):=by rw[hnd];exact hF.ela'
 have hr:zKg { nd with ela:=0 }:=by rw[hnd];exact hF.reps
 have q5:(zSb nd).ela=(if n6+1 < 1000 then n6+1 else 1000):=by
  rw[hnd]
  show(if 1000 < n6+1 then 1000 else n6+1)=_
  split<;>split<;>omega
 have hq:nd.role=n4∧nd.wt=n7∧nd.term=n2∧nd.nodes=n1:=by rw[hnd];exact⟨rfl,rfl,rfl,rfl⟩
 obtain⟨q6,q7,q8,q9⟩:=hq
 rw[e1,←q5,←hnd]
 obtain⟨E,hE⟩:∃E,E=zSb nd:=⟨_,rfl⟩
 have hEl:E=⟨n0,n1,n2,n3,n4,u,es,n5,E.ela,n7,vs,xs,ms⟩:=by rw[hE,hnd];rfl
 rw[←hE] at hF2 ⊢
 refine⟨fun h1=>⟨fun h2=>?_,fun h2=>?_⟩,fun h1=>⟨by decide +kernel,fun h2 h3=>?_,fun h2=>?_⟩⟩
 ·rw[zak (by rw[q6];exact h1) (by rw[←hE];omega)]
  refine⟨⟨by omega,?_⟩,?_⟩
  ·rw[hnd] at hr;exact hr
  ·rw[hnd];exact⟨rfl,rfl,rfl,rfl,rfl,rfl,rfl,rfl,rfl,rfl,rfl,rfl,rfl,rfl⟩
 ·rw[zal (by rw[q6];exact h1) (by rw[←hE];exact h2),←hE,hEl]
  exact⟨rfl,rfl,rfl,rfl,rfl,rfl,rfl,rfl,rfl,rfl,rfl,rfl,rfl,rfl⟩
 ·have hT:zBD nd d=zEH nd d:=by rw[zBD,if_neg (by rw[q6];exact h1),if_neg (by rw[←hE,q7,q8];omega)]
  have hSR:zEH E d=zEH nd d:=by rw[hE];rfl
  rw[hT,←hEl,←hSR]
  exact⟨⟨hF2,by omega,q1,q2,q3⟩,rfl,rfl,rfl,rfl,rfl,rfl,rfl,rfl,rfl,rfl,rfl,rfl,rfl,rfl⟩
 ·rw[zaj (by rw[q6];exact h1) (by rw[←hE,q7,q8];omega),←hE,hEl]
  exact⟨rfl,rfl,rfl,rfl,rfl,rfl,rfl,rfl,rfl,rfl,rfl,rfl,rfl,rfl⟩
def zNj:zJ:=⟨[(.rd,.agg [.int .i64,.int .i64,.int .i64,.int .i64,.int .i64,.bool,.list (.agg [.int .i64,.str]),.int .i64,.int .i64,.int .i64,.list (.int .i64),.list (.int .i64),.list (.int .i64)]),(.rd,.int .i64)],[.agg [.int .i64,.int .i64,.int .i64,.int .i64,.int .i64,.bool,.list (.agg [.int .i64,.str]),.int .i64,.int .i64,.int .i64,.list (.int .i64),.list (.int .i64),.list (.int .i64)],.list (.agg [.int .i64,.int .i64,.int .i64,.int .i64,.int .i64,.int .i64,.int .i64,.bool,.list (.agg [.int .i64,.str])])],true,fun ps=>NdF (z8 (nth ps 0).A)∧0≤(nth ps 1).I∧(nth ps 1).I≤1000000∧(nth (nth ps 0).A 10).L.length≤1048576,
 fun ps=>[(zBD (z8 (nth ps 0).A) (nth ps 1).I).1.pv,.list (zBD (z8 (nth ps 0).A) (nth ps 1).I).2],fun _=>[]⟩
theorem zX8:zh Tryz.prog 93 zNj:=by
 refine zP [0,1,2,4,5,6] [.cell 4 77,.tmp 5] (zA (cs:=[]) zbl (zA (cs:=[]) zI2 (zD (zB [])))) mixed Tryz.func93 rfl (by decide) rfl (by decide) rfl ?_
 intro ps hT hpre W hW
 simp only[zNj,TyA,Ty,Tys] at hT hpre
 obtain⟨_,_,rfl,⟨_,rfl,_,_,rfl,⟨n0,rfl,hn0⟩,_,_,rfl,⟨n1,rfl,hn1⟩,_,_,rfl,⟨n2,rfl,hn2⟩,_,_,rfl,⟨n3,rfl,hn3⟩,_,_,rfl,⟨n4,rfl,hn4⟩,_,_,rfl,⟨u,rfl⟩,_,_,rfl,⟨es,rfl,hes,tes⟩,_,_,rfl,⟨n5,rfl,hn5⟩,_,_,rfl,⟨n6,rfl,hn6⟩,_,_,rfl,⟨n7,rfl,hn7⟩,_,_,rfl,⟨vs,rfl,hvs,tvs⟩,_,_,rfl,⟨xs,rfl,hxs,txs⟩,_,_,rfl,⟨ms,rfl,hms,tms⟩,rfl⟩,_,_,rfl,⟨d,rfl,hd⟩,rfl⟩:=hT
 simp only[zE,zF,yp,zAA,zBE,zNq,z8] at hpre
 refine hW.vc [(3,[8],tkN [0,1,2,3,4,5,6] (.alt 7 (alN [8,9] .done) (alS 8 (tkN [7] (alS 9 .done)))))] _ _ ?_
 simp[-List.getD_eq_getElem?_getD,zNj,zAz,zSe,zj,zj,z8,ND.rv,ND.pv]
 obtain⟨hF,q1,q2,q3⟩:=hpre
 have a1:es.length≤60:=hF.l6
 have a2:(xs.length:Int)=n1:=hF.nx
 have a3:(ms.length:Int)=n1:=hF.ms
 have a4:n1≤5:=hF.n5
 exact⟨⟨by omega,q3,by omega,by omega⟩,⟨hF,q1,q2⟩,by decide +kernel⟩
end
end Go.Proofs.YthogljppoiekaaaGreat
