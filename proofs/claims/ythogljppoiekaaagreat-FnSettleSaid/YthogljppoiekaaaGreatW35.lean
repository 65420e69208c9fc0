/-
  Part 35: contracts of functions, and the laws by which they are proved.
  Conditions: none.
-/
import Derived.Test.YthogljppoiekaaaGreatW31
set_option linter.unusedVariables false
set_option linter.unusedSimpArgs false
set_option linter.unusedSectionVars false
set_option maxRecDepth 100000
namespace Go.Proofs.YthogljppoiekaaaGreat
section
variable [zS]
def zeq(n:ND)(d:List UInt8):ND:={ n with log:=n.log++[.agg [.int .i64 n.term,.str d]] }
def zQz(n:ND)(d:List UInt8):ND:={ zeq n d with com:=zGi (zeq n d) (n.log.length+1) }
def zKJ(n:ND)(d:List UInt8):ND × List PV × Int:=
 if n.up=false then (n,[],13) else if n.role≠2 then (n,[],12) else if (n.log.length:Int)=60 then (n,[],7) else (zQz n d,zAx (zQz n d) n.nodes.toNat,0)
theorem zXy{t:Int}{es:List PV}{d:List UInt8}(h:zMR t es):zMR t (es++[.agg [.int .i64 t,.str d]]):=by
 intro j hj
 rw[List.length_append,List.length_singleton] at hj
 by_cases h1:j < es.length
 ·rw[zEd h1]
  refine⟨(h j h1).1,fun i hi=>?_⟩
  rw[zEd (by omega)]
  exact(h j h1).2 i hi
 ·have:j=es.length:=by omega
  subst this
  rw[zF2]
  refine⟨Int.le_refl _,fun i hi=>?_⟩
  by_cases h2:i < es.length
  ·rw[zEd h2];exact(h i h2).1
  ·have:i=es.length:=by omega
   subst this
   rw[zF2];exact Int.le_refl _
theorem zS9{n:ND}{d:List UInt8}(h:NdF n)(hl:n.log.length≤1000):zKg (zQz n d):=by
 refine⟨h.n1,h.n5,fun i hi=>?_⟩
 have h1:=h.nx
 have h2:=h.ms
 have hi':(i:Int) < n.nodes:=hi
 have:=zI1 h.nm (by omega) i (by omega)
 have hll:((zQz n d).log.length:Int)=n.log.length+1:=by show((n.log++[_]).length:Int)=_;simp
 refine⟨by omega,by show(i:Int) < n.nx.length;omega,?_,?_,by omega⟩
 ·show 1≤(nth n.nx ((i:Int)).toNat).I
  rw[Int.toNat_natCast];omega
 ·show(nth n.nx ((i:Int)).toNat).I≤((zQz n d).log.length:Int)+1
  rw[Int.toNat_natCast,hll];omega
def zI9:zJ:=⟨[(.rd,.agg [.int .i64,.int .i64,.int .i64,.int .i64,.int .i64,.bool,.list (.agg [.int .i64,.str]),.int .i64,.int .i64,.int .i64,.list (.int .i64),.list (.int .i64),.list (.int .i64)]),(.rd,.str)],[.agg [.int .i64,.int .i64,.int .i64,.int .i64,.int .i64,.bool,.list (.agg [.int .i64,.str]),.int .i64,.int .i64,.int .i64,.list (.int .i64),.list (.int .i64),.list (.int .i64)],.list (.agg [.int .i64,.int .i64,.int .i64,.int .i64,.int .i64,.int .i64,.int .i64,.bool,.list (.agg [.int .i64,.str])]),.int .i64],false,fun ps=>NdF (z8 (nth ps 0).A)∧(nth (nth ps 0).A 10).L.length≤1048576,
 fun ps=>[(zKJ (z8 (nth ps 0).A) (nth ps 1).S).1.pv,.list (zKJ (z8 (nth ps 0).A) (nth ps 1).S).2.1,.int .i64 (zKJ (z8 (nth ps 0).A) (nth ps 1).S).2.2],fun _=>[]⟩
theorem zTU:zh Tryz.prog 95 zI9:=by
 refine zP [0,1,2,4,5,6,7] [.cell 4 77,.tmp 5,.tmp 6] (zA (cs:=[]) zbo (zA (cs:=[]) zOA (zA (cs:=[]) zI2 (zD (zB []))))) mixed Tryz.func95 rfl (by decide) rfl (by decide) rfl ?_
 intro ps hT hpre W hW
 simp only[zI9,TyA,Ty,Tys] at hT hpre
 obtain⟨_,_,rfl,⟨_,rfl,_,_,rfl,⟨n0,rfl,hn0⟩,_,_,rfl,⟨n1,rfl,hn1⟩,_,_,rfl,⟨n2,rfl,hn2⟩,_,_,rfl,⟨n3,rfl,hn3⟩,_,_,rfl,⟨n4,rfl,hn4⟩,_,_,rfl,⟨u,rfl⟩,_,_,rfl,⟨es,rfl,hes,tes⟩,_,_,rfl,⟨n5,rfl,hn5⟩,_,_,rfl,⟨n6,rfl,hn6⟩,_,_,rfl,⟨n7,rfl,hn7⟩,_,_,rfl,⟨vs,rfl,hvs,tvs⟩,_,_,rfl,⟨xs,rfl,hxs,txs⟩,_,_,rfl,⟨ms,rfl,hms,tms⟩,rfl⟩,_,_,rfl,⟨d,rfl,hd⟩,rfl⟩:=hT
 simp only[zE,zF,yp,zAA,zBE,zNq,z8] at hpre
 refine hW.vc [(8,[11,15],tkN [0,1,2,3,4,5,6,7,8,9] (alN [10,11] (tkN [12,13,14] (alS 15 .done)))),(11,[8],tkN [0,1,2,3,4,5,6] (tkM [7] (alN [8,9,10] .done)))] _ _ ?_
 simp[-List.getD_eq_getElem?_getD,zI9,zAz,zDI,zQ9,zj,zj,z8,ND.rv,ND.pv]
 obtain⟨hF,q3⟩:=hpre
 have a1:es.length≤60:=hF.l6
 have a2:(xs.length:Int)=n1:=hF.nx
 have a3:(ms.length:Int)=n1:=hF.ms
 have a4:n1≤5:=hF.n5
 have a5:0≤n5:=hF.c0
 have a6:1≤n1:=hF.n1
 obtain⟨nd,hnd⟩:∃nd:ND,nd=⟨n0,n1,n2,n3,n4,u,es,n5,n6,n7,vs,xs,ms⟩:=⟨_,rfl⟩
 rw[←hnd]
 refine⟨fun h=>?_,fun h=>⟨fun h2=>?_,fun h2 _=>⟨fun h3=>?_,fun h3=>⟨⟨by omega,q3,by omega,by omega⟩,by decide +kernel,by omega,fun _=>?_⟩⟩⟩⟩
 ·have e:zKJ nd d=(nd,[],13):=by rw[zKJ,if_pos (by rw[hnd];exact h)]
  rw[e,hnd]
  and_intros<;>rfl
 ·have e:zKJ nd d=(nd,[],12):=by rw[zKJ,if_neg (by rw[hnd];simp[h]),if_pos (by rw[hnd];exact h2)]
  rw[e,hnd]
  and_intros<;>rfl
 ·have e:zKJ nd d=(nd,[],7):=by rw[zKJ,if_neg (by rw[hnd];simp[h]),if_neg (by rw[hnd];simp[h2]),if_pos (by rw[hnd];exact h3)]
  rw[e,hnd]
  and_intros<;>rfl
 ·have e:zKJ nd d=(zQz nd d,zAx (zQz nd d) nd.nodes.toNat,0):=by rw[zKJ,if_neg (by rw[hnd];simp[h]),if_neg (by rw[hnd];simp[h2]),if_neg (by rw[hnd];exact h3)]
  have hA:zQz nd d=⟨n0,n1,n2,n3,n4,u,es++[.agg [.int .i64 n2,.str d]],zGi ⟨n0,n1,n2,n3,n4,u,es++[.agg [.int .i64 n2,.str d]],n5,n6,n7,vs,xs,ms⟩ (es.length+1),n6,n7,vs,xs,ms⟩:=by rw[hnd];rfl
  have hR:zKg (zQz nd d):=zS9 (by rw[hnd];exact hF) (by rw[hnd];show es.length≤1000;omega)
  have hN:nd.nodes=n1:=by rw[hnd]
  rw[e,hN]
  rw[hA] at hR ⊢
  exact⟨⟨a5,a3,a4,by omega,zXy (zKP hF.en)⟩,hR,by decide +kernel,by and_intros<;>rfl⟩
structure Gd (n:ND) (t:Int):Prop where
 F:NdF n
 u:n.up=true
 rt:n.role≠0→1≤n.term
 t:n.term≤t
end
end Go.Proofs.YthogljppoiekaaaGreat
