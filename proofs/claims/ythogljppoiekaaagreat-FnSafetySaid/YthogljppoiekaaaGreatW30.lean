/-
  Part 30: contracts of functions, and the laws by which they are proved.
  Conditions: none.
-/
import Derived.Test.YthogljppoiekaaaGreatW24
import Derived.Test.YthogljppoiekaaaGreatW27
import Derived.Test.YthogljppoiekaaaGreatW28
import Derived.Test.YthogljppoiekaaaGreatW29
set_option linter.unusedVariables false
set_option linter.unusedSimpArgs false
set_option linter.unusedSectionVars false
set_option maxRecDepth 100000
namespace Go.Proofs.YthogljppoiekaaaGreat
section
variable [zS]
def zOO:zJ:=⟨[(.bx,.box [.int .i64,.int .i64,.int .i64,.int .i64,.int .i64,.bool,.list (.agg [.int .i64,.str]),.int .i64,.int .i64,.int .i64,.list (.int .i64),.list (.int .i64),.list (.int .i64),.list (.agg [.int .i64,.int .i64,.int .i64,.int .i64,.int .i64,.int .i64,.int .i64,.bool,.list (.agg [.int .i64,.str])])]),(.rd,.agg [.int .i64,.int .i64,.int .i64,.int .i64,.int .i64,.int .i64,.int .i64,.bool,.list (.agg [.int .i64,.str])])],[],true,fun ps=>NdF (z8 (nth ps 0).A)∧MgF (z8 (nth ps 0).A) (yk (nth ps 1).A)∧(nth (nth ps 0).A 13).L.length≤900,fun _=>[],
 fun ps=>[(yI (zCD (z8 (nth ps 0).A) (nth (nth ps 1).A 3).I) (yk (nth ps 1).A)).1.rv ((nth (nth ps 0).A 13).L++(yI (zCD (z8 (nth ps 0).A) (nth (nth ps 1).A 3).I) (yk (nth ps 1).A)).2)]⟩
theorem zbm:zh Tryz.prog 176 zOO:=by
 refine zP [0,1,3,25] [] (zA (cs:=[]) zX4 (zA (cs:=[]) zWX (zA (cs:=[]) zbi (zA (cs:=[]) ze2 (zA (cs:=[]) zTQ (zD (zB []))))))) mixed Tryz.func176 rfl (by decide) rfl (by decide) rfl ?_
 intro ps hT hpre W hW
 simp only[zOO,TyA,Ty,Tys] at hT hpre
 obtain⟨_,_,rfl,⟨_,rfl,_,_,rfl,⟨n0,rfl,hn0⟩,_,_,rfl,⟨n1,rfl,hn1⟩,_,_,rfl,⟨n2,rfl,hn2⟩,_,_,rfl,⟨n3,rfl,hn3⟩,_,_,rfl,⟨n4,rfl,hn4⟩,_,_,rfl,⟨u,rfl⟩,_,_,rfl,⟨es,rfl,hes,tes⟩,_,_,rfl,⟨n5,rfl,hn5⟩,_,_,rfl,⟨n6,rfl,hn6⟩,_,_,rfl,⟨n7,rfl,hn7⟩,_,_,rfl,⟨vs,rfl,hvs,tvs⟩,_,_,rfl,⟨xs,rfl,hxs,txs⟩,_,_,rfl,⟨ms,rfl,hms,tms⟩,_,_,rfl,⟨out,rfl,hout,tout⟩,rfl⟩,_,_,rfl,⟨_,rfl,_,_,rfl,⟨m0,rfl,hm0⟩,_,_,rfl,⟨m1,rfl,hm1⟩,_,_,rfl,⟨m2,rfl,hm2⟩,_,_,rfl,⟨m3,rfl,hm3⟩,_,_,rfl,⟨m4,rfl,hm4⟩,_,_,rfl,⟨m5,rfl,hm5⟩,_,_,rfl,⟨m6,rfl,hm6⟩,_,_,rfl,⟨m7,rfl⟩,_,_,rfl,⟨m8,rfl,hm8,tm8⟩,rfl⟩,rfl⟩:=hT
 simp only[zE,zF,yp,zAA,zBE,zNq,z8,yk] at hpre
 obtain⟨hF,hM,p1⟩:=hpre
 obtain⟨nd,hnd⟩:∃nd:ND,nd=⟨n0,n1,n2,n3,n4,u,es,n5,n6,n7,vs,xs,ms⟩:=⟨_,rfl⟩
 refine hW.vc [] _ _ ?_
 simp[-List.getD_eq_getElem?_getD,zOO,zEr,zRj,zJT,zFt,zJx]
 refine hW.cutS [_,_] _ _ [.bx 0 [.int .i64,.int .i64,.int .i64,.int .i64,.int .i64,.bool,.list (.agg [.int .i64,.str]),.int .i64,.int .i64,.int .i64,.list (.int .i64),.list (.int .i64),.list (.int .i64),.list (.agg [.int .i64,.int .i64,.int .i64,.int .i64,.int .i64,.int .i64,.int .i64,.bool,.list (.agg [.int .i64,.str])])]] (fun ys=>ys=[(zCD nd m3).rv out]) ?_ ?_
 ·refine hW.vc [(1,[],tkN [0,1,2,3,4,5,6,7] .done)] _ _ ?_
  simp[-List.getD_eq_getElem?_getD,zOO,zEr,zRj,zJT,zFt,zJx,z8,ND.rv,zGv]
  have a3:(xs.length:Int)=n1:=hF.nx
  have a4:(ms.length:Int)=n1:=hF.ms
  refine⟨by decide +kernel,fun h=>⟨⟨a3,a4,hF.n1,hF.n5⟩,?_⟩,fun h=>?_⟩
  ·have e:zCD nd m3=⟨n0,n1,m3,-1,0,u,es,n5,n6,n7,[],List.replicate n1.toNat (.int .i64 1),List.replicate n1.toNat (.int .i64 0)⟩:=by rw[hnd,zCD,if_pos h];rfl
   rw[e];and_intros<;>rfl
  ·have e:zCD nd m3=⟨n0,n1,n2,n3,n4,u,es,n5,n6,n7,vs,xs,ms⟩:=by rw[hnd,zCD,if_neg (Int.not_lt.2 h)]
   rw[e];and_intros<;>rfl
 ·rintro ys rfl
  refine hW.vc [(1,[],tkN [0,1,2,3,4,5,6,7] .done)] _ _ ?_
  simp[-List.getD_eq_getElem?_getD,zOO,zEr,zRj,zJT,zFt,zJx,z8,yk,ND.rv]
  have hT:NdF (zCD nd m3):=zPx (by rw[hnd];exact hF) hM.tM
  obtain⟨mg,hmg⟩:∃mg:MG,mg=⟨m0,m1,m2,m3,m4,m5,m6,m7,m8⟩:=⟨_,rfl⟩
  obtain⟨T,hTd⟩:∃T,T=zCD nd m3:=⟨_,rfl⟩
  rw[←hTd] at hT ⊢
  have hTd':zCD ⟨n0,n1,n2,n3,n4,u,es,n5,n6,n7,vs,xs,ms⟩ m3=T:=by rw[hTd,hnd]
  have eta:(⟨T.id,T.nodes,T.term,T.vote,T.role,T.up,T.log,T.com,T.ela,T.wt,T.vs,T.nx,T.ms⟩:ND)=T:=rfl
  have l6:=hT.l6
  have a2:=hT.n5
  have hTn:T.nodes=n1:=by rw[hTd,hnd,zCD];split<;>rfl
  have hTt:m3≤T.term:=by
   rw[hTd,hnd,zCD];split
   ·exact Int.le_refl _
   ·rename_i h;exact Int.not_lt.1 h
  have hMT:MgF T mg:=by
   rw[hmg]
   exact⟨hM.k1,hM.k4,hM.f0,by rw[hTn];exact hM.f1,hM.t1,hM.tM,hM.i0,hM.i6,hM.c0,hM.c6,hM.es⟩
  have hm0:0≤m1:=hM.f0
  have hm1:m1 < n1:=hM.f1
  rw[hTd',eta,←hmg]
  refine⟨fun k1=>?_,fun k1=>⟨fun k2=>?_,fun k2=>⟨fun k3=>?_,fun k3=>?_⟩⟩⟩
  ·rw[yI,if_pos (by rw[hmg];exact k1)]
   repeat' (first | exact hT | exact hMT | apply And.intro | intro _)
   all_goals first | rfl | omega | assumption | decide +kernel
  ·rw[yI,if_neg (by rw[hmg];exact k1),if_pos (by rw[hmg];exact k2)]
   repeat' (first | exact hT | exact hMT | apply And.intro | intro _)
   all_goals first | rfl | omega | assumption | decide +kernel
  ·rw[yI,if_neg (by rw[hmg];exact k1),if_neg (by rw[hmg];exact k2),if_pos (by rw[hmg];exact k3)]
   repeat' (first | exact hT | exact hMT | apply And.intro | intro _)
   all_goals first | rfl | omega | assumption | decide +kernel
  ·rw[yI,if_neg (by rw[hmg];exact k1),if_neg (by rw[hmg];exact k2),if_neg (by rw[hmg];exact k3)]
   repeat' (first | exact hT | exact hMT | apply And.intro | intro _)
   all_goals first | rfl | omega | assumption | decide +kernel
def zJ0:zJ:=⟨[(.rd,.agg [.int .i64,.int .i64,.int .i64,.int .i64,.int .i64,.bool,.list (.agg [.int .i64,.str]),.int .i64,.int .i64,.int .i64,.list (.int .i64),.list (.int .i64),.list (.int .i64)]),(.rd,.agg [.int .i64,.int .i64,.int .i64,.int .i64,.int .i64,.int .i64,.int .i64,.bool,.list (.agg [.int .i64,.str])])],[.agg [.int .i64,.int .i64,.int .i64,.int .i64,.int .i64,.bool,.list (.agg [.int .i64,.str]),.int .i64,.int .i64,.int .i64,.list (.int .i64),.list (.int .i64),.list (.int .i64)],.list (.agg [.int .i64,.int .i64,.int .i64,.int .i64,.int .i64,.int .i64,.int .i64,.bool,.list (.agg [.int .i64,.str])])],true,fun ps=>NdF (z8 (nth ps 0).A)∧MgF (z8 (nth ps 0).A) (yk (nth ps 1).A)∧(nth (nth ps 0).A 10).L.length≤1048576,
 fun ps=>[(yI (zCD (z8 (nth ps 0).A) (nth (nth ps 1).A 3).I) (yk (nth ps 1).A)).1.pv,.list (yI (zCD (z8 (nth ps 0).A) (nth (nth ps 1).A 3).I) (yk (nth ps 1).A)).2],fun _=>[]⟩
theorem zX9:zh Tryz.prog 138 zJ0:=by
 refine zP [0,1,2,3,4,5,6] [.cell 4 77,.tmp 5] (zA (cs:=[]) zbm (zA (cs:=[]) zI2 (zD (zB [])))) mixed Tryz.func138 rfl (by decide) rfl (by decide) rfl ?_
 intro ps hT hpre W hW
 simp only[zJ0,TyA,Ty,Tys] at hT hpre
 obtain⟨_,_,rfl,⟨_,rfl,_,_,rfl,⟨n0,rfl,hn0⟩,_,_,rfl,⟨n1,rfl,hn1⟩,_,_,rfl,⟨n2,rfl,hn2⟩,_,_,rfl,⟨n3,rfl,hn3⟩,_,_,rfl,⟨n4,rfl,hn4⟩,_,_,rfl,⟨u,rfl⟩,_,_,rfl,⟨es,rfl,hes,tes⟩,_,_,rfl,⟨n5,rfl,hn5⟩,_,_,rfl,⟨n6,rfl,hn6⟩,_,_,rfl,⟨n7,rfl,hn7⟩,_,_,rfl,⟨vs,rfl,hvs,tvs⟩,_,_,rfl,⟨xs,rfl,hxs,txs⟩,_,_,rfl,⟨ms,rfl,hms,tms⟩,rfl⟩,_,_,rfl,⟨_,rfl,_,_,rfl,⟨m0,rfl,hm0⟩,_,_,rfl,⟨m1,rfl,hm1⟩,_,_,rfl,⟨m2,rfl,hm2⟩,_,_,rfl,⟨m3,rfl,hm3⟩,_,_,rfl,⟨m4,rfl,hm4⟩,_,_,rfl,⟨m5,rfl,hm5⟩,_,_,rfl,⟨m6,rfl,hm6⟩,_,_,rfl,⟨m7,rfl⟩,_,_,rfl,⟨m8,rfl,hm8,tm8⟩,rfl⟩,rfl⟩:=hT
 simp only[zE,zF,yp,zAA,zBE,zNq,z8,yk] at hpre
 refine hW.vc [(3,[8],tkN [0,1,2,3,4,5,6] (.alt 7 (alN [8,9] .done) (alS 8 (tkN [7] (alS 9 .done)))))] _ _ ?_
 simp[-List.getD_eq_getElem?_getD,zJ0,zAz,zOO,zj,zj,z8,yk,ND.rv,ND.pv]
 obtain⟨hF,hM,q3⟩:=hpre
 have a1:es.length≤60:=hF.l6
 have a2:(xs.length:Int)=n1:=hF.nx
 have a3:(ms.length:Int)=n1:=hF.ms
 have a4:n1≤5:=hF.n5
 exact⟨⟨by omega,q3,by omega,by omega⟩,⟨hF,hM⟩,by decide +kernel⟩
end
section
variable [zS]
def zCe:zJ:=⟨[(.rd,.int .i64),(.rd,.int .i64)],[.agg [.int .i64,.int .i64,.int .i64,.int .i64,.int .i64,.bool,.list (.agg [.int .i64,.str]),.int .i64,.int .i64,.int .i64,.list (.int .i64),.list (.int .i64),.list (.int .i64)]],true,fun ps=>0≤(nth ps 0).I∧(nth ps 0).I≤1000∧1≤(nth ps 1).I∧(nth ps 1).I≤5,fun ps=>[(zCr (nth ps 0).I (nth ps 1).I 0 (-1) []).pv],fun _=>[]⟩
theorem zLC:zh Tryz.prog 97 zCe:=by
 refine zP [0,1,4,5] [.cell 4 77] (zA (cs:=[]) zSM (zD (zB []))) mixed Tryz.func97 rfl (by decide) rfl (by decide) rfl ?_
 intro ps hT hpre W hW
 simp only[zCe,TyA,Ty,Tys] at hT hpre
 obtain⟨_,_,rfl,⟨id,rfl,hid⟩,_,_,rfl,⟨nodes,rfl,hnodes⟩,rfl⟩:=hT
 simp only[zE,zF,yp] at hpre
 refine hW.vc [] _ _ ?_
 simp[-List.getD_eq_getElem?_getD,zCe,zEF,zCr,ND.pv,zGv,z8]
 exact⟨⟨hpre.2.2.1,hpre.2.2.2⟩,zC (by omega)⟩
end
end Go.Proofs.YthogljppoiekaaaGreat
