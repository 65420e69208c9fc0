/-
  Part 28: contracts of functions, and the laws by which they are proved.
  Conditions: none.
-/
import Derived.Test.YthogljppoiekaaaGreatW26
set_option linter.unusedVariables false
set_option linter.unusedSimpArgs false
set_option linter.unusedSectionVars false
set_option maxRecDepth 100000
namespace Go.Proofs.YthogljppoiekaaaGreat
section
variable [zS]
def zFt:zJ:=⟨[(.bx,.box [.int .i64,.int .i64,.int .i64,.int .i64,.int .i64,.bool,.list (.agg [.int .i64,.str]),.int .i64,.int .i64,.int .i64,.list (.int .i64),.list (.int .i64),.list (.int .i64),.list (.agg [.int .i64,.int .i64,.int .i64,.int .i64,.int .i64,.int .i64,.int .i64,.bool,.list (.agg [.int .i64,.str])])]),(.rd,.agg [.int .i64,.int .i64,.int .i64,.int .i64,.int .i64,.int .i64,.int .i64,.bool,.list (.agg [.int .i64,.str])])],[],true,fun ps=>NdF (z8 (nth ps 0).A)∧(nth (nth ps 0).A 13).L.length≤900∧MgF (z8 (nth ps 0).A) (yk (nth ps 1).A)∧(nth (nth ps 1).A 3).I≤(nth (nth ps 0).A 2).I,fun _=>[],
 fun ps=>[(zBQ (z8 (nth ps 0).A) (yk (nth ps 1).A)).1.rv ((nth (nth ps 0).A 13).L++[zM5 (z8 (nth ps 0).A) (yk (nth ps 1).A) (zBQ (z8 (nth ps 0).A) (yk (nth ps 1).A)).2.1 (zBQ (z8 (nth ps 0).A) (yk (nth ps 1).A)).2.2])]⟩
set_option maxHeartbeats 4000000 in
theorem zWX:zh Tryz.prog 209 zFt:=by
 refine zP [0,1,3,4,5,6,7] [] (zA (cs:=[]) zNT (zA (cs:=[]) zTQ (zA (cs:=[]) zVn (zD (zB []))))) mixed Tryz.func209 rfl (by decide) rfl (by decide) rfl ?_
 intro ps hT hpre W hW
 simp only[zFt,TyA,Ty,Tys] at hT hpre
 obtain⟨_,_,rfl,⟨_,rfl,_,_,rfl,⟨n0,rfl,hn0⟩,_,_,rfl,⟨n1,rfl,hn1⟩,_,_,rfl,⟨n2,rfl,hn2⟩,_,_,rfl,⟨n3,rfl,hn3⟩,_,_,rfl,⟨n4,rfl,hn4⟩,_,_,rfl,⟨u,rfl⟩,_,_,rfl,⟨es,rfl,hes,tes⟩,_,_,rfl,⟨n5,rfl,hn5⟩,_,_,rfl,⟨n6,rfl,hn6⟩,_,_,rfl,⟨n7,rfl,hn7⟩,_,_,rfl,⟨vs,rfl,hvs,tvs⟩,_,_,rfl,⟨xs,rfl,hxs,txs⟩,_,_,rfl,⟨ms,rfl,hms,tms⟩,_,_,rfl,⟨out,rfl,hout,tout⟩,rfl⟩,_,_,rfl,⟨_,rfl,_,_,rfl,⟨m0,rfl,hm0⟩,_,_,rfl,⟨m1,rfl,hm1⟩,_,_,rfl,⟨m2,rfl,hm2⟩,_,_,rfl,⟨m3,rfl,hm3⟩,_,_,rfl,⟨m4,rfl,hm4⟩,_,_,rfl,⟨m5,rfl,hm5⟩,_,_,rfl,⟨m6,rfl,hm6⟩,_,_,rfl,⟨m7,rfl⟩,_,_,rfl,⟨m8,rfl,hm8,tm8⟩,rfl⟩,rfl⟩:=hT
 simp only[zE,zF,yp,zAA,zBE] at hpre
 refine hW.vc [(1,[15],tkN [0,1,2,3,4,5,6,7,8,9,10,11,12,13] (alN [14,15] .done)),(2,[],tkN [0,1,2,3,4,5,6,7] .done),(6,[],tkN [0,1,2,3,4,5,6,7,8,9,10,11,12,13,14,15,17,18] (alS 16 (tkN [19,20] .done))),(12,[],tkN [0,1,2,3,4,5,6,7,8,9,10,11,12,13,14,15,16,17,18,19,20,21,22,23,24,25] .done),(13,[9,14,18],tkN [0,2,3,4,5,6,7,8,10,12] (.alt 1 (.alt 9 (tkN [11,13] (alS 14 (tkN [15,16,17] (alS 18 .done)))) (alS 11 (tkN [13] (alN [9,14] (tkN [15,16,17] (alS 18 .done)))))) (alS 11 (tkN [13] (alN [1,9,14] (tkN [15,16,17] (alS 18 .done))))))),(15,[14],tkN [0,1,2,3,4,5,6,7,8,9,10,11,12,13] (alS 14 .done))] _ _ ?_
 simp[-List.getD_eq_getElem?_getD,zFt,zLR,zEr,zEs,z8,yk,ND.rv]
 obtain⟨hF,p1,hM,p2⟩:=hpre
 obtain⟨nd,hnd⟩:∃nd:ND,nd=⟨n0,n1,n2,n3,n4,u,es,n5,n6,n7,vs,xs,ms⟩:=⟨_,rfl⟩
 obtain⟨mg,hmg⟩:∃mg:MG,mg=⟨m0,m1,m2,m3,m4,m5,m6,m7,m8⟩:=⟨_,rfl⟩
 have l6:es.length≤60:=hF.l6
 have hx:(xs.length:Int)=n1:=hF.nx
 have hm:(ms.length:Int)=n1:=hF.ms
 have h1:1≤n1:=hF.n1
 have h5:n1≤5:=hF.n5
 have i0:0≤m4:=hM.i0
 have i6:m4≤60:=hM.i6
 have e6:m8.length≤60:=hM.es
 have k1:IntKind.i64.wrap (m4 - 1)=m4 - 1:=zC (by omega)
 have kI:(if (if 0 < m4 - 1 then m4 - 1 else 0) < (es.length:Int) then if 0 < m4 - 1 then m4 - 1 else 0 else (es.length:Int))=mxI 0 (mnI es.length (m4 - 1)):=by
  unfold mxI mnI
  repeat' split
  all_goals omega
 have hno:((m3 < n2∨(es.length:Int) < m4)∨¬zCI es m4=m5)→zBQ nd mg=(zAW nd mg,mxI 0 (mnI es.length (m4 - 1)),false):=fun h=>by
  rw[zVQ (by rw[hnd,hmg];exact h),hnd,hmg]
 have hF1:m3=n2→zAW nd mg=⟨n0,n1,n2,n3,0,u,es,n5,0,n7,[],List.replicate n1.toNat (.int .i64 1),List.replicate n1.toNat (.int .i64 0)⟩:=fun h=>by
  rw[hnd,hmg,zAW,if_pos h];rfl
 have hF2:¬m3=n2→zAW nd mg=⟨n0,n1,n2,n3,n4,u,es,n5,n6,n7,vs,xs,ms⟩:=fun h=>by
  rw[hnd,hmg,zAW,if_neg h]
 have hfo:zGv nd=⟨n0,n1,n2,n3,0,u,es,n5,n6,n7,[],List.replicate n1.toNat (.int .i64 1),List.replicate n1.toNat (.int .i64 0)⟩:=by rw[hnd];rfl
 rw[k1,kI,←hnd,←hmg,hfo]
 refine⟨by decide +kernel,fun _=>⟨by decide +kernel,fun q=>?_,fun q=>⟨⟨hx,hm,h1,h5⟩,by decide +kernel,fun _=>⟨fun q1=>⟨i0,q1⟩,fun q1=>?_,fun q1 q2=>?_⟩⟩⟩⟩
 ·rw[hno (.inl (.inl q)),hF2 (by omega),zM5,hnd,hmg]
  repeat' (first | apply And.intro | intro _)
  all_goals first | rfl | omega | assumption | decide +kernel
 ·rw[hno (q1.elim (fun h=>.inl (.inr h)) .inr),hF1 (by omega),zM5,hnd,hmg]
  repeat' (first | apply And.intro | intro _)
  all_goals first | rfl | omega | assumption | decide +kernel
 have hT:zBQ nd mg=(zPU (zAW nd mg) mg,m4+m8.length,true):=by
  rw[zSw (by rw[hnd,hmg];exact q) (by rw[hnd,hmg];exact q1) (by rw[hnd,hmg];exact q2),hmg]
 rw[hF1 (by omega),hmg] at hT
 simp only[zPU] at hT
 rw[←hmg] at hT
 refine hW.loopS _ _ _ [.sl 5 .dp (.int .i64)] (fun ys=>∃i:Nat,ys=[.int .i64 i]∧i≤m8.length∧m4.toNat+i≤es.length∧zAD es m4.toNat m8=zAD es (m4.toNat+i) (m8.drop i)) (fun ys=>m8.length - (nth ys 0).I.toNat) ?_ ?_
 ·simp[-List.getD_eq_getElem?_getD,zFt,zLR,zEr,zEs]
  exact⟨0,rfl,by omega,by simp only at q1;omega,rfl⟩
 ·rintro ys ⟨i,rfl,g1,g2,g3⟩
  refine hW.vc [(1,[15],tkN [0,1,2,3,4,5,6,7,8,9,10,11,12,13] (alN [14,15] .done)),(2,[],tkN [0,1,2,3,4,5,6,7] .done),(6,[],tkN [0,1,2,3,4,5,6,7,8,9,10,11,12,13,14,15,17,18] (alS 16 (tkN [19,20] .done))),(12,[],tkN [0,1,2,3,4,5,6,7,8,9,10,11,12,13,14,15,16,17,18,19,20,21,22,23,24,25] .done),(13,[9,14,18],tkN [0,2,3,4,5,6,7,8,10,12] (.alt 1 (.alt 9 (tkN [11,13] (alS 14 (tkN [15,16,17] (alS 18 .done)))) (alS 11 (tkN [13] (alN [9,14] (tkN [15,16,17] (alS 18 .done)))))) (alS 11 (tkN [13] (alN [1,9,14] (tkN [15,16,17] (alS 18 .done))))))),(15,[14],tkN [0,1,2,3,4,5,6,7,8,9,10,11,12,13] (alS 14 .done))] _ _ ?_
  simp[-List.getD_eq_getElem?_getD,zFt,zLR,zEr,zEs,z8,yk,ND.rv,zM5]
  have e1:IntKind.i64.wrap (m4+(i:Int))=((m4.toNat+i:Nat):Int):=by rw[zC (by omega)];omega
  have e2:IntKind.i64.wrap (m4+(m8.length:Int))=m4+m8.length:=zC (by omega)
  rw[e1,e2,zC (n:=(i:Int)+1) (by omega),←hnd,←hmg,hT]
  obtain⟨k,hk⟩:∃k,k=m4.toNat+i:=⟨_,rfl⟩
  rw[←hk] at g2 g3 ⊢
  simp[mxI,mnI,g3]
  have hm:i < m8.length→(k < es.length→¬(nth (nth es k).A 0).I=(nth (nth m8 i).A 0).I)→es.take k++(m8.drop i).take (m8.length - i)=zAD es k (m8.drop i):=fun q1 q2=>by
   rw[List.take_of_length_le (l:=m8.drop i) (by simp),zG q1,zAD,if_neg (fun h=>q2 h.1 h.2)]
  have hs:i < m8.length→k < es.length→(nth (nth es k).A 0).I=(nth (nth m8 i).A 0).I→zAD es k (m8.drop i)=zAD es (m4.toNat+(i+1)) (m8.drop (i+1)):=fun q1 q2 q3=>by
   have e:k+1=m4.toNat+(i+1):=by omega
   rw[zG q1,zAD,if_pos ⟨q2,q3⟩,e]
  have hz:m8.length≤i→es=zAD es k (m8.drop i):=fun q1=>by rw[List.drop_eq_nil_of_le q1,zAD]
  repeat' (first | apply And.intro | intro _)
  all_goals first | rfl | omega | assumption | decide +kernel | exact hm ‹_› ‹_› | exact hz ‹_› | exact⟨i+1,by omega,by omega,by omega,hs ‹_› ‹_› ‹_›⟩ | trace_state
end
end Go.Proofs.YthogljppoiekaaaGreat
