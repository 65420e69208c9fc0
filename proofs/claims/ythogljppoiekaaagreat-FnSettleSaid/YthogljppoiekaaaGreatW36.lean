/-
  Part 36: contracts of functions, and the laws by which they are proved.
  Conditions: none.
-/
import Derived.Test.YthogljppoiekaaaGreatW25
import Derived.Test.YthogljppoiekaaaGreatW35
set_option linter.unusedVariables false
set_option linter.unusedSimpArgs false
set_option linter.unusedSectionVars false
set_option maxRecDepth 100000
namespace Go.Proofs.YthogljppoiekaaaGreat
section
variable [zS]
def z6:zJ:=⟨[(.rd,.agg [.int .i64,.int .i64,.int .i64,.int .i64,.int .i64,.int .i64,.int .i64,.bool,.list (.agg [.int .i64,.str])])],[.agg [.int .i64,.int .i64,.int .i64,.int .i64,.int .i64,.int .i64,.int .i64,.bool,.list (.agg [.int .i64,.str])]],true,fun ps=>(nth (nth ps 0).A 8).L.length≤1048576,fun ps=>[nth ps 0],fun _=>[]⟩
theorem zHA:zh Tryz.prog 127 z6:=by
 refine zP [0,1,2] [.cell 2 120] (zA (cs:=[]) zPA (zD (zB []))) mixed Tryz.func127 rfl (by decide) rfl (by decide) rfl ?_
 intro ps hT hpre W hW
 simp only[z6,TyA,Ty,Tys] at hT hpre
 obtain⟨_,_,rfl,⟨_,rfl,_,_,rfl,⟨m0,rfl,hm0⟩,_,_,rfl,⟨m1,rfl,hm1⟩,_,_,rfl,⟨m2,rfl,hm2⟩,_,_,rfl,⟨m3,rfl,hm3⟩,_,_,rfl,⟨m4,rfl,hm4⟩,_,_,rfl,⟨m5,rfl,hm5⟩,_,_,rfl,⟨m6,rfl,hm6⟩,_,_,rfl,⟨m7,rfl⟩,_,_,rfl,⟨m8,rfl,hm8,tm8⟩,rfl⟩,rfl⟩:=hT
 simp only[zE,zF,zBE,zAA] at hpre
 refine hW.vc [] _ _ ?_
 simp[-List.getD_eq_getElem?_getD,z6,zKa]
 omega
def zBc:zJ:=zc
theorem zTP:zh Tryz.prog 151 zBc:=by
 refine zP [0,1,2] [.cell 2 71] (zD (zB [])) mixed Tryz.func151 rfl (by decide) rfl (by decide) rfl ?_
 intro ps hT hpre W hW
 simp only[zBc,TyA,Ty,Tys] at hT hpre
 simp only[zc,TyA,Ty,Tys] at hT
 obtain⟨_,_,rfl,⟨_,rfl,_,_,rfl,⟨n0,rfl,hn0⟩,_,_,rfl,⟨n1,rfl,hn1⟩,_,_,rfl,⟨n2,rfl,hn2⟩,_,_,rfl,⟨n3,rfl,hn3⟩,_,_,rfl,⟨n4,rfl,hn4⟩,_,_,rfl,⟨u,rfl⟩,_,_,rfl,⟨es,rfl,hes,tes⟩,_,_,rfl,⟨n5,rfl,hn5⟩,_,_,rfl,⟨n6,rfl,hn6⟩,_,_,rfl,⟨n7,rfl,hn7⟩,_,_,rfl,⟨vs,rfl,hvs,tvs⟩,_,_,rfl,⟨xs,rfl,hxs,txs⟩,_,_,rfl,⟨ms,rfl,hms,tms⟩,rfl⟩,rfl⟩:=hT
 refine hW.vc [] _ _ ?_
 simp[-List.getD_eq_getElem?_getD,zBc,zc,zc]
def zE8:zJ:=⟨[(.rd,.agg [.int .i64,.int .i64,.int .i64,.int .i64,.int .i64,.bool,.list (.agg [.int .i64,.str]),.int .i64,.int .i64,.int .i64,.list (.int .i64),.list (.int .i64),.list (.int .i64)]),(.rd,.str)],[.agg [.int .i64,.int .i64,.int .i64,.int .i64,.int .i64,.bool,.list (.agg [.int .i64,.str]),.int .i64,.int .i64,.int .i64,.list (.int .i64),.list (.int .i64),.list (.int .i64)],.list (.agg [.int .i64,.int .i64,.int .i64,.int .i64,.int .i64,.int .i64,.int .i64,.bool,.list (.agg [.int .i64,.str])]),.int .i64],true,fun ps=>(nth (nth ps 0).A 10).L.length≤1048576,
 fun ps=>[(zJX (z8 (nth ps 0).A) (nth ps 1).S).1.pv,.list (zJX (z8 (nth ps 0).A) (nth ps 1).S).2.1,.int .i64 (zJX (z8 (nth ps 0).A) (nth ps 1).S).2.2],fun _=>[]⟩
theorem zSP:zh Tryz.prog 154 zE8:=by
 refine zP [0,1,2,4,5,6,7,8] [.cell 4 77,.tmp 5,.tmp 6] (zA (cs:=[]) zJP (zA (cs:=[]) zQO (zA (cs:=[]) zGt (zA (cs:=[]) zA9 (zA (cs:=[]) zHa (zA (cs:=[]) zZf (zD (zB [])))))))) mixed Tryz.func154 rfl (by decide) rfl (by decide) rfl ?_
 intro ps hT hpre W hW
 simp only[zE8,TyA,Ty,Tys] at hT hpre
 obtain⟨_,_,rfl,⟨_,rfl,_,_,rfl,⟨n0,rfl,hn0⟩,_,_,rfl,⟨n1,rfl,hn1⟩,_,_,rfl,⟨n2,rfl,hn2⟩,_,_,rfl,⟨n3,rfl,hn3⟩,_,_,rfl,⟨n4,rfl,hn4⟩,_,_,rfl,⟨u,rfl⟩,_,_,rfl,⟨es,rfl,hes,tes⟩,_,_,rfl,⟨n5,rfl,hn5⟩,_,_,rfl,⟨n6,rfl,hn6⟩,_,_,rfl,⟨n7,rfl,hn7⟩,_,_,rfl,⟨vs,rfl,hvs,tvs⟩,_,_,rfl,⟨xs,rfl,hxs,txs⟩,_,_,rfl,⟨ms,rfl,hms,tms⟩,rfl⟩,_,_,rfl,⟨d,rfl,hd⟩,rfl⟩:=hT
 simp only[zE,zF,yp,zAA,zBE] at hpre
 refine hW.vc [] _ _ ?_
 simp[-List.getD_eq_getElem?_getD,zE8,zPF,zo,zT,yy,zCh,zBx,zj,zj,z8,ND.pv]
 obtain⟨nd,hnd⟩:∃nd:ND,nd=⟨n0,n1,n2,n3,n4,u,es,n5,n6,n7,vs,xs,ms⟩:=⟨_,rfl⟩
 rw[←hnd]
 refine fun _=>⟨fun h1=>?_,fun h1=>⟨fun h2=>?_,fun h2 _=>⟨fun h3=>?_,fun h3=>?_⟩⟩⟩
 ·have hl:65536 < d.length:=by simp[zP3] at h1;omega
  have e:zJX nd d=(ND.no,[],2):=by rw[zJX,if_pos hl]
  rw[e]
  simp[ND.no]
 ·have hl:¬65536 < d.length:=by simp[zP3] at h1;omega
  have e:zJX nd d=(ND.no,[],1):=by rw[zJX,if_neg hl,h2];rfl
  rw[e]
  simp[ND.no]
 ·have hl:¬65536 < d.length:=by simp[zP3] at h1;omega
  have e:zJX nd d=(ND.no,[],4):=by rw[zJX,if_neg hl,h2,h3];rfl
  rw[e]
  simp[ND.no]
 ·have hl:¬65536 < d.length:=by simp[zP3] at h1;omega
  have e:zJX nd d=zHG nd d:=by rw[zJX,if_neg hl,h2,h3];rfl
  rw[e]
  have hF:=zH6 h2
  rw[hnd] at hF
  have a1:es.length≤60:=hF.l6
  have a2:(xs.length:Int)=n1:=hF.nx
  have a3:(ms.length:Int)=n1:=hF.ms
  have a4:n1≤5:=hF.n5
  have a5:0≤n5:=hF.c0
  refine⟨⟨by omega,hpre,by omega,by omega⟩,fun hu=>?_,fun hu=>⟨fun hr=>?_,fun hr _=>⟨fun h60=>?_,fun h60=>⟨by omega,fun _=>⟨⟨a5,by omega,by omega⟩,?_⟩⟩⟩⟩⟩
  ·have e:zHG nd d=(nd,[],13):=by rw[zHG,if_pos (by rw[hnd];exact hu)]
   rw[e,hnd]
   and_intros<;>rfl
  ·have e:zHG nd d=(nd,[],12):=by rw[zHG,if_neg (by rw[hnd];simp[hu]),if_pos (by rw[hnd];exact hr)]
   rw[e,hnd]
   and_intros<;>rfl
  ·have e:zHG nd d=(nd,[],7):=by rw[zHG,if_neg (by rw[hnd];simp[hu]),if_neg (by rw[hnd];simp[hr]),if_pos (by rw[hnd];exact h60)]
   rw[e,hnd]
   and_intros<;>rfl
  ·have e:zHG nd d=(yG nd d,zAx (yG nd d) nd.nodes.toNat,0):=by rw[zHG,if_neg (by rw[hnd];simp[hu]),if_neg (by rw[hnd];simp[hr]),if_neg (by rw[hnd];exact h60)]
   have hA:yG nd d=⟨n0,n1,n2,n3,n4,u,es++[.agg [.int .i64 n2,.str d]],zGi ⟨n0,n1,n2,n3,n4,u,es++[.agg [.int .i64 n2,.str d]],n5,n6,n7,vs,xs,ms⟩ (es.length+1),n6,n7,vs,xs,ms⟩:=by rw[hnd];rfl
   have hR:zKg (zQz nd d):=zS9 (by rw[hnd];exact hF) (by rw[hnd];show es.length≤1000;omega)
   have hR:zKg (yG nd d):=hR
   have hN:nd.nodes=n1:=by rw[hnd]
   rw[e,hN]
   rw[hA] at hR ⊢
   exact⟨hR,by and_intros<;>rfl⟩
end
end Go.Proofs.YthogljppoiekaaaGreat
