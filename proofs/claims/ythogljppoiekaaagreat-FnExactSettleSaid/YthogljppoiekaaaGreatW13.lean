/-
  Part 13: contracts of functions, and the laws by which they are proved.
  Conditions: none.
-/
import Derived.Test.YthogljppoiekaaaGreatW12
set_option linter.unusedVariables false
set_option linter.unusedSimpArgs false
set_option linter.unusedSectionVars false
set_option maxRecDepth 100000
namespace Go.Proofs.YthogljppoiekaaaGreat
section
variable [zS]
def zIi:zJ:=⟨[(.rd,.int .u64),(.rd,.int .u64)],[.int .u64,.int .u64],true,fun ps=>(nth ps 0).I=1∧0≤(nth ps 1).I∧(nth ps 1).I≤5,fun ps=>[.int .u64 0,.int .u64 (nth ps 1).I],fun _=>[]⟩
theorem zbp:zh Tryz.prog 240 zIi:=by
 refine zP [0,1,4,5,6,7,8,9,10,11,12,13] [.tmp 4,.tmp 5] (zD (zB [])) mixed Tryz.func240 rfl (by decide) rfl (by decide) rfl ?_
 intro ps hT hpre W hW
 simp only[zIi,TyA,Ty,Tys] at hT hpre
 obtain⟨_,_,rfl,⟨x,rfl,hx⟩,_,_,rfl,⟨y,rfl,hy⟩,rfl⟩:=hT
 simp only[zE,zF,yp] at hpre
 obtain⟨rfl,h1,h2⟩:=hpre
 refine hW.vc [] _ _ ?_
 simp[-List.getD_eq_getElem?_getD,zIi]
 obtain rfl | rfl | rfl | rfl | rfl | rfl:y=0∨y=1∨y=2∨y=3∨y=4∨y=5:=by omega
 all_goals decide +kernel
def zWq:zJ:=zIi
theorem k_Mul:zh Tryz.prog 230 zWq:=by
 refine zP [0,1,4,5,6,7,8,9] [.tmp 4,.tmp 5] (zA (cs:=[]) zbp (zD (zB []))) mixed Tryz.func230 rfl (by decide) rfl (by decide) rfl ?_
 intro ps hT hpre W hW
 simp only[zWq,TyA,Ty,Tys] at hT hpre
 simp only[zIi,TyA,Ty,Tys] at hT hpre
 obtain⟨_,_,rfl,⟨x,rfl,hx⟩,_,_,rfl,⟨y,rfl,hy⟩,rfl⟩:=hT
 simp only[zE,zF,yp] at hpre
 refine hW.vc [] _ _ ?_
 simp[-List.getD_eq_getElem?_getD,zWq,zIi]
 exact hpre
theorem zZL{x z:PV}{m k q:Nat}:(List.replicate k x++List.replicate (m - k) z).drop (k+q)=List.replicate (m - (k+q)) z:=by
 rw[List.drop_append,List.drop_replicate,List.drop_replicate,List.length_replicate]
 have e1:k - (k+q)=0:=by omega
 have e3:m - k - (k+q - k)=m - (k+q):=by omega
 rw[e1,e3,List.replicate_zero,List.nil_append]
def zLm:zJ:=⟨[(.rd,.list (.int .i64)),(.rd,.int .i64)],[.list (.int .i64)],true,fun ps=>(nth ps 0).L.length=1∧1≤(nth ps 1).I∧(nth ps 1).I≤5,fun ps=>[.list (List.replicate (nth ps 1).I.toNat (nth (nth ps 0).L 0))],fun _=>[]⟩
theorem zZj:zh Tryz.prog 215 zLm:=by
 refine zP [0,1,4,5,6,7,8] [.tmp 4] (zA (cs:=[]) k_Mul (zD (zB []))) mixed Tryz.func215 rfl (by decide) rfl (by decide) rfl ?_
 intro ps hT hpre W hW
 simp only[zLm,TyA,Ty,Tys] at hT hpre
 obtain⟨_,_,rfl,⟨es,rfl,hes,tes⟩,_,_,rfl,⟨c,rfl,hc⟩,rfl⟩:=hT
 simp only[zE,zF,yp,zAA] at hpre
 obtain⟨h1,h2,h3⟩:=hpre
 refine hW.vc [(9,[7],tkN [0,1,2,3,4,5,6] (alS 7 (tkN [8] (alS 9 .done))))] _ _ ?_
 simp[-List.getD_eq_getElem?_getD,zLm,zWq,zIi,zIi]
 obtain⟨x,rfl⟩:=List.length_eq_one_iff.1 h1
 have e1:IntKind.u64.wrap c=c:=zW5 (by omega)
 have e2:IntKind.i64.wrap c=c:=zC (by omega)
 rw[e1,e2]
 refine⟨fun h=>absurd h (by omega),fun _ _=>⟨⟨by simp[IntKind.wrap,IntKind.signed,IntKind.bits],by omega,by omega⟩,fun h=>absurd h (by omega),fun _=>⟨⟨by omega,by omega,by omega⟩,?_⟩⟩⟩
 obtain⟨m,rfl⟩:∃m:Nat,c=m:=⟨c.toNat,by omega⟩
 have e3:min 1 m=1:=by omega
 have e4:List.take m [x]=[x]:=List.take_of_length_le (by simp;omega)
 simp only[Int.toNat_natCast,List.length_singleton,e3,e4]
 refine hW.loopS _ _ _ [.sl 7 .dp (.list (.int .i64)),.sl 8 .dp (.int .i64)] (fun ys=>∃k:Nat,ys=[.list (List.replicate k x++List.replicate (m - k) (.int .i64 0)),.int .i64 k]∧1≤k∧k≤m) (fun ys=>m - (nth ys 1).I.toNat) ?_ ?_
 ·simp[-List.getD_eq_getElem?_getD,zLm,zWq,zIi]
  exact⟨1,⟨rfl,rfl⟩,by omega,by omega⟩
 ·rintro ys ⟨k,rfl,g1,g2⟩
  refine hW.vc [(9,[7],tkN [0,1,2,3,4,5,6] (alS 7 (tkN [8] (alS 9 .done))))] _ _ ?_
  simp[-List.getD_eq_getElem?_getD,zLm,zWq,zIi,zIi]
  have e5:((k:Int)+((m - k:Nat):Int)).toNat - k=m - k:=by omega
  simp only[e5,Nat.min_self,Nat.min_comm (m - k) k,zZL]
  have e6:1≤m - k→1≤min k (m - k):=fun h=>by omega
  have e8:min (m - k) (min k (m - k))=min k (m - k):=by omega
  have e7:min k (m - k)≤m - k:=by omega
  rw[zC (by omega)]
  refine fun _=>⟨fun h=>⟨by decide +kernel,by omega,fun _=>⟨by omega,fun _=>⟨⟨k+min k (m - k),⟨by rw[e8],by omega⟩,by omega,by omega⟩,by omega⟩⟩⟩,fun h=>?_⟩
  have:k=m:=by omega
  subst this
  simp
def zQj:zJ:=⟨[(.bx,.box [.int .i64,.int .i64,.int .i64,.int .i64,.int .i64,.bool,.list (.agg [.int .i64,.str]),.int .i64,.int .i64,.int .i64,.list (.int .i64),.list (.int .i64),.list (.int .i64)]),(.rd,.int .i64)],[],true,fun ps=>1≤(nth (nth ps 0).A 1).I∧(nth (nth ps 0).A 1).I≤5,fun _=>[],
 fun ps=>[.agg [nth (nth ps 0).A 0,nth (nth ps 0).A 1,nth (nth ps 0).A 2,nth (nth ps 0).A 3,nth (nth ps 0).A 4,nth (nth ps 0).A 5,nth (nth ps 0).A 6,nth (nth ps 0).A 7,nth (nth ps 0).A 8,nth (nth ps 0).A 9,nth (nth ps 0).A 10,
  .list (List.replicate (nth (nth ps 0).A 1).I.toNat (.int .i64 (nth ps 1).I)),.list (List.replicate (nth (nth ps 0).A 1).I.toNat (.int .i64 0))]]⟩
theorem zX5:zh Tryz.prog 183 zQj:=by
 refine zP [0,1] [] (zA (cs:=[]) zZj (zD (zB []))) mixed Tryz.func183 rfl (by decide) rfl (by decide) rfl ?_
 intro ps hT hpre W hW
 simp only[zQj,TyA,Ty,Tys] at hT hpre
 obtain⟨_,_,rfl,⟨_,rfl,_,_,rfl,⟨n0,rfl,hn0⟩,_,_,rfl,⟨n1,rfl,hn1⟩,_,_,rfl,⟨n2,rfl,hn2⟩,_,_,rfl,⟨n3,rfl,hn3⟩,_,_,rfl,⟨n4,rfl,hn4⟩,_,_,rfl,⟨u,rfl⟩,_,_,rfl,⟨es,rfl,hes,tes⟩,_,_,rfl,⟨n5,rfl,hn5⟩,_,_,rfl,⟨n6,rfl,hn6⟩,_,_,rfl,⟨n7,rfl,hn7⟩,_,_,rfl,⟨vs,rfl,hvs,tvs⟩,_,_,rfl,⟨xs,rfl,hxs,txs⟩,_,_,rfl,⟨ms,rfl,hms,tms⟩,rfl⟩,_,_,rfl,⟨x,rfl,hx⟩,rfl⟩:=hT
 simp only[zE,zF,yp,zAA,zBE] at hpre
 refine hW.vc [(0,[16,19],tkN [0,1,2,4,5,6,7,9,10,11,12] (.alt 3 (.alt 8 (tkN [14,15] (.alt 13 (alS 16 (tkN [17,18] (alS 19 .done))) (alN [16,13] (tkN [17,18] (alS 19 .done))))) (alN [13,8] (tkN [14,15] (alS 16 (tkN [17,18] (alS 19 .done)))))) (alN [13,3,8] (tkN [14,15] (alS 16 (tkN [17,18] (alS 19 .done)))))))] _ _ ?_
 simp[-List.getD_eq_getElem?_getD,zQj,zLm]
 exact⟨by decide +kernel,⟨hpre,by omega,by omega,by omega⟩,⟨by omega,by omega,by omega⟩,hpre⟩
def zLr(id p:Int)(ms:List PV):Nat→Int
 | 0=>1
 | i+1=>if (i:Int)≠id∧p≤(nth ms i).I then zLr id p ms i+1 else zLr id p ms i
theorem zSd(id p:Int)(ms:List PV):∀i,1≤zLr id p ms i∧zLr id p ms i≤i+1
 | 0=>by simp[zLr]
 | i+1=>by
  have:=zSd id p ms i
  rw[zLr]
  split<;>omega
def zGi(n:ND):Nat→Int
 | 0=>n.com
 | p+1=>if (p:Int)+1≤n.com then n.com else if zCI n.log ((p:Int)+1)=n.term∧n.nodes < 2*zLr n.id ((p:Int)+1) n.ms n.ms.length then (p:Int)+1 else zGi n p
theorem zSi{n:ND}{p:Nat}(h:(p:Int)≤n.com)(h0:0≤n.com):zGi n p=n.com:=by
 cases p with
 | zero=>rfl
 | succ p=>rw[zGi,if_pos (by omega)]
theorem zVD{n:ND}{p:Nat}(h:n.com < p)(h0:0≤n.com):zGi n p=if zCI n.log p=n.term∧n.nodes < 2*zLr n.id p n.ms n.ms.length then (p:Int) else zGi n (p - 1):=by
 cases p with
 | zero=>omega
 | succ p=>
  have e:((p+1:Nat):Int)=(p:Int)+1:=rfl
  rw[zGi,if_neg (by omega),e];rfl
def zCh:zJ:=⟨[(.bx,.box [.int .i64,.int .i64,.int .i64,.int .i64,.int .i64,.bool,.list (.agg [.int .i64,.str]),.int .i64,.int .i64,.int .i64,.list (.int .i64),.list (.int .i64),.list (.int .i64)])],[],true,fun ps=>0≤(nth (nth ps 0).A 7).I∧(nth (nth ps 0).A 12).L.length≤5∧(nth (nth ps 0).A 6).L.length≤1024,fun _=>[],
 fun ps=>[.agg [nth (nth ps 0).A 0,nth (nth ps 0).A 1,nth (nth ps 0).A 2,nth (nth ps 0).A 3,nth (nth ps 0).A 4,nth (nth ps 0).A 5,nth (nth ps 0).A 6,.int .i64 (zGi (z8 (nth ps 0).A) (nth (nth ps 0).A 6).L.length),nth (nth ps 0).A 8,nth (nth ps 0).A 9,nth (nth ps 0).A 10,nth (nth ps 0).A 11,nth (nth ps 0).A 12]]⟩
theorem zQO:zh Tryz.prog 194 zCh:=by
 refine zP [0,2,3,4,5,22,23,24] [] (zA (cs:=[]) zNR (zD (zB []))) mixed Tryz.func194 rfl (by decide) rfl (by decide) rfl ?_
 intro ps hT hpre W hW
 simp only[zCh,TyA,Ty,Tys] at hT hpre
 obtain⟨_,_,rfl,⟨_,rfl,_,_,rfl,⟨n0,rfl,hn0⟩,_,_,rfl,⟨n1,rfl,hn1⟩,_,_,rfl,⟨n2,rfl,hn2⟩,_,_,rfl,⟨n3,rfl,hn3⟩,_,_,rfl,⟨n4,rfl,hn4⟩,_,_,rfl,⟨u,rfl⟩,_,_,rfl,⟨es,rfl,hes,tes⟩,_,_,rfl,⟨n5,rfl,hn5⟩,_,_,rfl,⟨n6,rfl,hn6⟩,_,_,rfl,⟨n7,rfl,hn7⟩,_,_,rfl,⟨vs,rfl,hvs,tvs⟩,_,_,rfl,⟨xs,rfl,hxs,txs⟩,_,_,rfl,⟨ms,rfl,hms,tms⟩,rfl⟩,rfl⟩:=hT
 simp only[zE,zF,yp,zAA,zBE] at hpre
 refine hW.vc [(10,[],tkN [0,1,3,4,5,6] (alS 2 (tkN [7,8,9,10,11,12,13,14,15,16] .done)))] _ _ ?_
 simp[-List.getD_eq_getElem?_getD,zCh,zDc,z8]
 obtain⟨p1,p2,p3⟩:=hpre
 obtain⟨nd,hnd⟩:∃nd:ND,nd=⟨n0,n1,n2,n3,n4,u,es,n5,n6,n7,vs,xs,ms⟩:=⟨_,rfl⟩
 have hc:nd.com=n5:=by rw[hnd]
 have hl:nd.log=es:=by rw[hnd]
 have ht:nd.term=n2:=by rw[hnd]
 have hn:nd.nodes=n1:=by rw[hnd]
 have hi:nd.id=n0:=by rw[hnd]
 have hm:nd.ms=ms:=by rw[hnd]
 refine fun _=>hW.loopS _ _ _ [.sl 2 .dp (.int .i64)] (fun ys=>∃p:Nat,ys=[.int .i64 p]∧p≤es.length∧zGi nd es.length=zGi nd p) (fun ys=>(nth ys 0).I.toNat) ?_ ?_
 ·simp[-List.getD_eq_getElem?_getD,zCh,zDc]
  exact⟨_,rfl,by omega,rfl⟩
 ·rintro ys ⟨p,rfl,g1,g2⟩
  refine hW.vc [(10,[],tkN [0,1,3,4,5,6] (alS 2 (tkN [7,8,9,10,11,12,13,14,15,16] .done)))] _ _ ?_
  simp[-List.getD_eq_getElem?_getD,zCh,zDc,z8]
  rw[←hnd]
  refine⟨fun g3 _=>?_,fun g3=>?_⟩
  ·refine hW.loopS _ _ _ [.sl 24 .dp (.int .i64),.sl 3 .dp (.int .i64)] (fun ys=>∃i:Nat,ys=[.int .i64 i,.int .i64 (zLr n0 p ms i)]∧i≤ms.length) (fun ys=>ms.length - (nth ys 0).I.toNat) ?_ ?_
   ·simp[-List.getD_eq_getElem?_getD,zCh,zDc]
    exact⟨0,⟨rfl,rfl⟩,by omega⟩
   ·rintro ys ⟨i,rfl,q1⟩
    refine hW.vc [(10,[],tkN [0,1,3,4,5,6] (alS 2 (tkN [7,8,9,10,11,12,13,14,15,16] .done)))] _ _ ?_
    simp[-List.getD_eq_getElem?_getD,zCh,zDc,z8]
    have hb:=zSd n0 p ms i
    rw[←hnd,g2]
    have hu:n5 < p→zGi nd p=if zCI es p=n2∧n1 < 2*zLr n0 p ms ms.length then (p:Int) else zGi nd (p - 1):=fun h=>by
     rw[zVD (by rw[hc];exact h) (by rw[hc];exact p1),hl,ht,hn,hi,hm]
    refine⟨fun q2=>⟨q2,fun _=>⟨fun a b=>⟨⟨i+1,⟨zC (by omega),?_⟩,by omega⟩,by rw[zC (by omega)];omega⟩,fun a=>⟨⟨i+1,⟨zC (by omega),?_⟩,by omega⟩,by rw[zC (by omega)];omega⟩⟩⟩,fun q2=>⟨by decide +kernel,g1,?_⟩⟩
    ·rw[zLr,if_pos ⟨a,b⟩,zC (by omega)]
    ·rw[zLr,if_neg (fun h=>by have:=a h.1;omega)]
    ·have:i=ms.length:=by omega
     subst this
     rw[zC (n:=2*_) (by omega),zC (n:=(p:Int) - 1) (by omega)]
     refine⟨fun a b=>by rw[hu g3,if_pos ⟨a,b⟩],fun a=>⟨⟨p - 1,by omega,by omega,?_⟩,by omega⟩⟩
     rw[hu g3,if_neg (fun h=>by have:=a h.1;omega)]
  ·rw[g2,zSi (by rw[hc];exact g3) (by rw[hc];exact p1),hc]
end
end Go.Proofs.YthogljppoiekaaaGreat
