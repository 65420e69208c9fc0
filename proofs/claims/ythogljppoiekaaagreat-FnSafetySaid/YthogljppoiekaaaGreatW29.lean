/-
  Part 29: contracts of functions, and the laws by which they are proved.
  Conditions: none.
-/
import Derived.Test.YthogljppoiekaaaGreatW17
import Derived.Test.YthogljppoiekaaaGreatW22
set_option linter.unusedVariables false
set_option linter.unusedSimpArgs false
set_option linter.unusedSectionVars false
set_option maxRecDepth 100000
namespace Go.Proofs.YthogljppoiekaaaGreat
section
variable [zS]
def zJx:zJ:=⟨[(.bx,.box [.int .i64,.int .i64,.int .i64,.int .i64,.int .i64,.bool,.list (.agg [.int .i64,.str]),.int .i64,.int .i64,.int .i64,.list (.int .i64),.list (.int .i64),.list (.int .i64),.list (.agg [.int .i64,.int .i64,.int .i64,.int .i64,.int .i64,.int .i64,.int .i64,.bool,.list (.agg [.int .i64,.str])])]),(.rd,.agg [.int .i64,.int .i64,.int .i64,.int .i64,.int .i64,.int .i64,.int .i64,.bool,.list (.agg [.int .i64,.str])])],[],true,fun ps=>NdF (z8 (nth ps 0).A)∧(nth (nth ps 0).A 13).L.length≤900∧MgF (z8 (nth ps 0).A) (yk (nth ps 1).A),fun _=>[],
 fun ps=>[(zKi (z8 (nth ps 0).A) (yk (nth ps 1).A)).1.rv ((nth (nth ps 0).A 13).L++(zKi (z8 (nth ps 0).A) (yk (nth ps 1).A)).2)]⟩
theorem zX4:zh Tryz.prog 210 zJx:=by
 refine zP [0,1,3] [] (zA (cs:=[]) zau (zA (cs:=[]) zOA (zD (zB [])))) mixed Tryz.func210 rfl (by decide) rfl (by decide) rfl ?_
 intro ps hT hpre W hW
 simp only[zJx,TyA,Ty,Tys] at hT hpre
 obtain⟨_,_,rfl,⟨_,rfl,_,_,rfl,⟨n0,rfl,hn0⟩,_,_,rfl,⟨n1,rfl,hn1⟩,_,_,rfl,⟨n2,rfl,hn2⟩,_,_,rfl,⟨n3,rfl,hn3⟩,_,_,rfl,⟨n4,rfl,hn4⟩,_,_,rfl,⟨u,rfl⟩,_,_,rfl,⟨es,rfl,hes,tes⟩,_,_,rfl,⟨n5,rfl,hn5⟩,_,_,rfl,⟨n6,rfl,hn6⟩,_,_,rfl,⟨n7,rfl,hn7⟩,_,_,rfl,⟨vs,rfl,hvs,tvs⟩,_,_,rfl,⟨xs,rfl,hxs,txs⟩,_,_,rfl,⟨ms,rfl,hms,tms⟩,_,_,rfl,⟨out,rfl,hout,tout⟩,rfl⟩,_,_,rfl,⟨_,rfl,_,_,rfl,⟨m0,rfl,hm0⟩,_,_,rfl,⟨m1,rfl,hm1⟩,_,_,rfl,⟨m2,rfl,hm2⟩,_,_,rfl,⟨m3,rfl,hm3⟩,_,_,rfl,⟨m4,rfl,hm4⟩,_,_,rfl,⟨m5,rfl,hm5⟩,_,_,rfl,⟨m6,rfl,hm6⟩,_,_,rfl,⟨m7,rfl⟩,_,_,rfl,⟨m8,rfl,hm8,tm8⟩,rfl⟩,rfl⟩:=hT
 simp only[zE,zF,yp,zAA,zBE] at hpre
 obtain⟨hF,p1,hM⟩:=hpre
 have hm0:0≤m1:=hM.f0
 have hm1:m1 < n1:=hM.f1
 have a3:(xs.length:Int)=n1:=hF.nx
 have a4:(ms.length:Int)=n1:=hF.ms
 have l6:es.length≤60:=hF.l6
 have h5:n1≤5:=hF.n5
 have c0:0≤n5:=hF.c0
 have hi0:0≤m4:=hM.i0
 have hi6:m4≤60:=hM.i6
 have hmo:zMR n2 es:=zKP hF.en
 have h6:∀x,nth (ms.set m1.toNat x) m1.toNat=x:=fun x=>zEc (by omega)
 have h7:∀x,nth (xs.set m1.toNat x) m1.toNat=x:=fun x=>zEc (by omega)
 have nm:=zI1 (xs:=xs) (ms:=ms) (l:=es.length) hF.nm (by omega) m1.toNat (by omega)
 have bX:0≤mxI (nth ms m1.toNat).I (mnI m4 es.length)∧mxI (nth ms m1.toNat).I (mnI m4 es.length)≤61:=by
  unfold mxI mnI
  split<;>split<;>omega
 have w1:=zC (n:=mxI (nth ms m1.toNat).I (mnI m4 es.length)+1) (by omega)
 have w2:=zC (n:=(nth ms m1.toNat).I+1) (by omega)
 have w3:=zC (n:=(nth xs m1.toNat).I - 1) (by omega)
 have w4:=zC (n:=m4+1) (by omega)
 obtain⟨nd,hnd⟩:∃nd:ND,nd=⟨n0,n1,n2,n3,n4,u,es,n5,n6,n7,vs,xs,ms⟩:=⟨_,rfl⟩
 obtain⟨mg,hmg⟩:∃mg:MG,mg=⟨m0,m1,m2,m3,m4,m5,m6,m7,m8⟩:=⟨_,rfl⟩
 have hA:zOV nd mg=⟨n0,n1,n2,n3,n4,u,es,n5,n6,n7,vs,xs.set m1.toNat (.int .i64 (mxI (nth xs m1.toNat).I (mxI (nth ms m1.toNat).I (mnI m4 es.length)+1))),ms.set m1.toNat (.int .i64 (mxI (nth ms m1.toNat).I (mnI m4 es.length)))⟩:=by
  rw[hmg,hnd];simp only[zOV,ackM,h6,yp]
 have hN:zPy nd mg=⟨n0,n1,n2,n3,n4,u,es,n5,n6,n7,vs,xs.set m1.toNat (.int .i64 (mxI ((nth ms m1.toNat).I+1) (mnI ((nth xs m1.toNat).I - 1) (m4+1)))),ms⟩:=by
  rw[hmg,hnd];rfl
 have rO:zUV (zPy nd mg) m1:=by
  rw[hN]
  refine⟨hm0,by simp only[List.length_set];omega,?_,?_,by simp only;omega⟩
  ·simp only[h7,yp];unfold mxI mnI;split<;>split<;>omega
  ·simp only[h7,yp];unfold mxI mnI;split<;>split<;>omega
 unfold mxI mnI at w1
 refine hW.vc [(1,[],tkN [0,1,2,3,4,5,6,7,8,9,10,11,12,13,14,15] .done),(3,[33],tkN [0,1,2,3,4,5,6,7,8,9,10,11,12,13,14,15,16,17,18,19,20,21,22,23,24,25,26,27,28,29,30,31,32] (alS 33 .done)),(5,[27],tkN [0,1,2,3,4,5,6,7,8,9,10,11,12,13,14,15,16,17,18,19,20,21,22,23,24,25,26] (alS 27 .done)),(6,[28],tkN [0,1,2,3,4,5,6,7,8,9,10,11,12,13,14,15,16,17,18,19,20,21,22,23,24,25,26,27] (alS 28 .done))] _ _ ?_
 simp[-List.getD_eq_getElem?_getD,zJx,zDI,zQi,z8,yk,ND.rv,h6,h7]
 rw[w1,w2,w3,w4,←hnd,←hmg]
 refine⟨by decide +kernel,fun h=>?_,fun r t=>⟨fun o=>?_,fun o=>?_⟩⟩
 ·have e:zKi nd mg=(nd,[]):=by
   rw[zKi,if_pos (by rw[hmg,hnd];exact h)]
  rw[e,hnd]
  repeat' (first | apply And.intro | intro _)
  all_goals first | rfl | omega | assumption | decide +kernel
 ·have e:zKi nd mg=(zPy nd mg,[zOc (zPy nd mg) m1]):=by
   rw[zKi,if_neg (by rw[hmg,hnd];simp[r,t]),if_neg (by rw[hmg];simp[o]),hmg]
  rw[e]
  rw[hN] at rO ⊢
  obtain⟨r1,r2,r3,r4,r5⟩:=rO
  clear bX nm w1 w2 w3 w4 hA hN e
  repeat' (first | apply And.intro | intro _)
  all_goals first | rfl | exact r1 | exact r2 | exact r3 | exact r4 | exact r5 | omega | decide +kernel
 ·have e:zKi nd mg=({ zOV nd mg with com:=zGi (zOV nd mg) es.length },[]):=by
   rw[zKi,if_neg (by rw[hmg,hnd];simp[r,t]),if_pos (by rw[hmg];exact o),hnd]
  rw[e,hA]
  clear bX nm w1 w2 w3 w4 hA hN e rO
  repeat' (first | exact hmo | apply And.intro | intro _)
  all_goals first | rfl | omega | assumption | decide +kernel
end
end Go.Proofs.YthogljppoiekaaaGreat
