/-
  Part 27: contracts of functions, and the laws by which they are proved.
  Conditions: none.
-/
import Derived.Test.YthogljppoiekaaaGreatW17
import Derived.Test.YthogljppoiekaaaGreatW22
set_option linter.unusedVariables false
set_option linter.unusedSimpArgs false
set_option linter.unusedSectionVars false
set_option maxRecDepth 100000
namespace Go.Proofs.YthogljppoiekaaaGreat
section
variable [zS]
def zJT:zJ:=⟨[(.bx,.box [.int .i64,.int .i64,.int .i64,.int .i64,.int .i64,.bool,.list (.agg [.int .i64,.str]),.int .i64,.int .i64,.int .i64,.list (.int .i64),.list (.int .i64),.list (.int .i64),.list (.agg [.int .i64,.int .i64,.int .i64,.int .i64,.int .i64,.int .i64,.int .i64,.bool,.list (.agg [.int .i64,.str])])]),(.rd,.agg [.int .i64,.int .i64,.int .i64,.int .i64,.int .i64,.int .i64,.int .i64,.bool,.list (.agg [.int .i64,.str])])],[],true,fun ps=>NdF (z8 (nth ps 0).A)∧(nth (nth ps 0).A 13).L.length≤900∧0≤(nth (nth ps 1).A 1).I∧(nth (nth ps 1).A 1).I < 5,fun _=>[],
 fun ps=>[(zE2 (z8 (nth ps 0).A) (yk (nth ps 1).A)).1.rv ((nth (nth ps 0).A 13).L++(zE2 (z8 (nth ps 0).A) (yk (nth ps 1).A)).2)]⟩
set_option maxHeartbeats 4000000 in
theorem zbi:zh Tryz.prog 208 zJT:=by
 refine zP [0,1,3,4] [] (zA (cs:=[]) zX3 (zD (zB []))) mixed Tryz.func208 rfl (by decide) rfl (by decide) rfl ?_
 intro ps hT hpre W hW
 simp only[zJT,TyA,Ty,Tys] at hT hpre
 obtain⟨_,_,rfl,⟨_,rfl,_,_,rfl,⟨n0,rfl,hn0⟩,_,_,rfl,⟨n1,rfl,hn1⟩,_,_,rfl,⟨n2,rfl,hn2⟩,_,_,rfl,⟨n3,rfl,hn3⟩,_,_,rfl,⟨n4,rfl,hn4⟩,_,_,rfl,⟨u,rfl⟩,_,_,rfl,⟨es,rfl,hes,tes⟩,_,_,rfl,⟨n5,rfl,hn5⟩,_,_,rfl,⟨n6,rfl,hn6⟩,_,_,rfl,⟨n7,rfl,hn7⟩,_,_,rfl,⟨vs,rfl,hvs,tvs⟩,_,_,rfl,⟨xs,rfl,hxs,txs⟩,_,_,rfl,⟨ms,rfl,hms,tms⟩,_,_,rfl,⟨out,rfl,hout,tout⟩,rfl⟩,_,_,rfl,⟨_,rfl,_,_,rfl,⟨m0,rfl,hm0⟩,_,_,rfl,⟨m1,rfl,hm1⟩,_,_,rfl,⟨m2,rfl,hm2⟩,_,_,rfl,⟨m3,rfl,hm3⟩,_,_,rfl,⟨m4,rfl,hm4⟩,_,_,rfl,⟨m5,rfl,hm5⟩,_,_,rfl,⟨m6,rfl,hm6⟩,_,_,rfl,⟨m7,rfl⟩,_,_,rfl,⟨m8,rfl,hm8,tm8⟩,rfl⟩,rfl⟩:=hT
 simp only[zE,zF,yp,zAA,zBE] at hpre
 refine hW.vc [(1,[],tkN [0,1,2,3,4,5,6,7,8,9,10,11,12,13,14,15,16,17,18,19,20] .done),(3,[],tkN [0,1,2,3,4,5,6,7,8,9,10,11,12,13,14,15,16,17,18,19,20] .done),(5,[],tkN [0,1,2,3,4,5,6,7,8,9,10,11,12,13,14,15,16,17,18,19,20] .done),(6,[9,13,21,25],tkN [0,2,3,4,5,6,7,8,10,14,15,16,17,19] (.alt 1 (.alt 9 (tkN [11] (.alt 12 (.alt 13 (tkN [18,20] (alS 21 (tkN [22,23,24] (alS 25 .done)))) (alS 18 (tkN [20] (alN [13,21] (tkN [22,23,24] (alS 25 .done)))))) (alS 18 (tkN [20] (alN [12,13,21] (tkN [22,23,24] (alS 25 .done))))))) (.alt 11 (.alt 9 (.alt 12 (.alt 13 (tkN [18,20] (alS 21 (tkN [22,23,24] (alS 25 .done)))) (alS 18 (tkN [20] (alN [13,21] (tkN [22,23,24] (alS 25 .done)))))) (alS 18 (tkN [20] (alN [12,13,21] (tkN [22,23,24] (alS 25 .done)))))) (.alt 12 (.alt 9 (.alt 13 (tkN [18,20] (alS 21 (tkN [22,23,24] (alS 25 .done)))) (alS 18 (tkN [20] (alN [13,21] (tkN [22,23,24] (alS 25 .done)))))) (alS 18 (tkN [20] (alN [9,13,21] (tkN [22,23,24] (alS 25 .done)))))) (alS 18 (tkN [20] (.alt 9 (alN [12,13,21] (tkN [22,23,24] (alS 25 .done))) (alN [12,9,13,21] (tkN [22,23,24] (alS 25 .done)))))))) (alS 18 (tkN [20] (.alt 9 (tkN [11] (alN [12,13,21] (tkN [22,23,24] (alS 25 .done)))) (alS 11 (.alt 9 (alN [12,13,21] (tkN [22,23,24] (alS 25 .done))) (alN [12,9,13,21] (tkN [22,23,24] (alS 25 .done)))))))))) (.alt 11 (.alt 1 (.alt 9 (.alt 12 (.alt 13 (tkN [18,20] (alS 21 (tkN [22,23,24] (alS 25 .done)))) (alS 18 (tkN [20] (alN [13,21] (tkN [22,23,24] (alS 25 .done)))))) (alS 18 (tkN [20] (alN [12,13,21] (tkN [22,23,24] (alS 25 .done)))))) (.alt 12 (.alt 9 (.alt 13 (tkN [18,20] (alS 21 (tkN [22,23,24] (alS 25 .done)))) (alS 18 (tkN [20] (alN [13,21] (tkN [22,23,24] (alS 25 .done)))))) (alS 18 (tkN [20] (alN [9,13,21] (tkN [22,23,24] (alS 25 .done)))))) (alS 18 (tkN [20] (.alt 9 (alN [12,13,21] (tkN [22,23,24] (alS 25 .done))) (alN [12,9,13,21] (tkN [22,23,24] (alS 25 .done)))))))) (.alt 12 (.alt 1 (.alt 9 (.alt 13 (tkN [18,20] (alS 21 (tkN [22,23,24] (alS 25 .done)))) (alS 18 (tkN [20] (alN [13,21] (tkN [22,23,24] (alS 25 .done)))))) (alS 18 (tkN [20] (alN [9,13,21] (tkN [22,23,24] (alS 25 .done)))))) (alS 18 (tkN [20] (alN [1,9,13,21] (tkN [22,23,24] (alS 25 .done)))))) (alS 18 (tkN [20] (.alt 1 (.alt 9 (alN [12,13,21] (tkN [22,23,24] (alS 25 .done))) (alN [12,9,13,21] (tkN [22,23,24] (alS 25 .done)))) (alN [12,1,9,13,21] (tkN [22,23,24] (alS 25 .done)))))))) (alS 18 (tkN [20] (.alt 1 (.alt 9 (tkN [11] (alN [12,13,21] (tkN [22,23,24] (alS 25 .done)))) (alS 11 (.alt 9 (alN [12,13,21] (tkN [22,23,24] (alS 25 .done))) (alN [12,9,13,21] (tkN [22,23,24] (alS 25 .done)))))) (alS 11 (.alt 1 (.alt 9 (alN [12,13,21] (tkN [22,23,24] (alS 25 .done))) (alN [12,9,13,21] (tkN [22,23,24] (alS 25 .done)))) (alN [12,1,9,13,21] (tkN [22,23,24] (alS 25 .done))))))))))),(7,[],tkN [0,1,2,3,4,5,6,7,8,9,10,11,12] .done)] _ _ ?_
 simp[-List.getD_eq_getElem?_getD,zJT,zG0,z8,yk,ND.rv]
 obtain⟨hF,p1,p2,p3⟩:=hpre
 have hn1':1≤n1:=hF.n1
 have vl:=zJD (n:=n1) (es:=vs) (p:=-1) hF.vo (by omega)
 have hn5:n1≤5:=hF.n5
 have l6:es.length≤60:=hF.l6
 obtain⟨nd,hnd⟩:∃nd:ND,nd=⟨n0,n1,n2,n3,n4,u,es,n5,n6,n7,vs,xs,ms⟩:=⟨_,rfl⟩
 obtain⟨mg,hmg⟩:∃mg:MG,mg=⟨m0,m1,m2,m3,m4,m5,m6,m7,m8⟩:=⟨_,rfl⟩
 rw[←hnd,←hmg]
 refine⟨by decide +kernel,fun h=>?_,fun r t o=>?_⟩
 ·have e:zE2 nd mg=(nd,[]):=by
   rw[zE2,if_pos]
   rw[hmg,hnd]
   rcases h with (h | h) | h
   ·exact .inl h
   ·exact .inr (.inl h)
   ·exact .inr (.inr h)
  rw[e,hnd]
  and_intros<;>rfl
 have hE1:zE2 nd mg=if nd.nodes < 2*(zFN m1 vs).length then (zCm { nd with vs:=zFN m1 vs },zAx (zCm { nd with vs:=zFN m1 vs }) nd.nodes.toNat) else ({ nd with vs:=zFN m1 vs },[]):=by
  rw[zE2,if_neg (by rw[hmg,hnd];simp[r,t,o]),hmg,hnd]
 have pl:=zR4 m1 vs
 refine hW.loopS _ _ _ [.sl 4 .dp (.int .i64)] (fun ys=>∃k:Nat,ys=[.int .i64 k]∧k≤vs.length∧zIq m1 vs=k+zIq m1 (vs.drop k)) (fun ys=>vs.length - (nth ys 0).I.toNat) ?_ ?_
 ·simp[-List.getD_eq_getElem?_getD,zJT,zG0]
  exact⟨0,rfl,by omega,by simp⟩
 ·rintro ys ⟨k,rfl,g1,g2⟩
  refine hW.vc [(1,[],tkN [0,1,2,3,4,5,6,7,8,9,10,11,12,13,14,15,16,17,18,19,20] .done),(3,[],tkN [0,1,2,3,4,5,6,7,8,9,10,11,12,13,14,15,16,17,18,19,20] .done),(5,[],tkN [0,1,2,3,4,5,6,7,8,9,10,11,12,13,14,15,16,17,18,19,20] .done),(7,[],tkN [0,1,2,3,4,5,6,7,8,9,10,11,12] .done)] _ _ ?_
  simp[-List.getD_eq_getElem?_getD,zJT,zG0,z8,yk,ND.rv]
  have hv':vs.length≤140737488355328:=hvs
  refine⟨by decide +kernel,fun _ _=>⟨fun q1 q2=>⟨⟨k+1,zC (by omega),by omega,?_⟩,by rw[zC (by omega)];omega⟩,fun q1=>⟨by decide +kernel,fun _=>⟨fun h=>⟨h,by omega⟩,fun _=>?_⟩⟩⟩⟩
  ·rw[g2,zG q1,zIq,if_pos q2];omega
  have hk:zIq m1 vs=k:=by
   rw[g2]
   by_cases h:k < vs.length
   ·rw[zG h,zIq,if_neg (Int.not_lt.2 (q1 h))];rfl
   ·rw[List.drop_eq_nil_of_le (by omega),zIq];rfl
  have sl:∀ws,zXJ { nd with vs:=ws }:=fun ws=>by
   rw[hnd];exact⟨⟨hF.n1,hF.n5,hF.c0,hF.l6⟩,hF.nx,hF.ms,zKP hF.en⟩
  refine⟨fun q3=>?_,fun q3 q4=>⟨by decide +kernel,fun _=>?_⟩⟩
  ·have hI:zFN m1 vs=vs.take k++(.int .i64 m1 :: vs.drop k):=by
    have:¬zQr m1 vs=true:=by
     rw[zQr,hk]
     simp only[Bool.and_eq_true,decide_eq_true_eq]
     intro h
     rcases q3 with q3 | q3
     ·omega
     ·exact q3 h.2
    rw[zFN,if_neg this,hk];simp
   have hlen:(zFN m1 vs).length=vs.length+1:=by rw[hI];simp;omega
   refine hW.cutS [_] _ _ [.bx 0 [.int .i64,.int .i64,.int .i64,.int .i64,.int .i64,.bool,.list (.agg [.int .i64,.str]),.int .i64,.int .i64,.int .i64,.list (.int .i64),.list (.int .i64),.list (.int .i64),.list (.agg [.int .i64,.int .i64,.int .i64,.int .i64,.int .i64,.int .i64,.int .i64,.bool,.list (.agg [.int .i64,.str])])]] (fun ys=>ys=[({ nd with vs:=zFN m1 vs }:ND).rv out]) ?_ ?_
   ·refine hW.vc [(6,[9,13,21,25],tkN [0,2,3,4,5,6,7,8,10,14,15,16,17,19] (.alt 1 (.alt 9 (tkN [11] (.alt 12 (.alt 13 (tkN [18,20] (alS 21 (tkN [22,23,24] (alS 25 .done)))) (alS 18 (tkN [20] (alN [13,21] (tkN [22,23,24] (alS 25 .done)))))) (alS 18 (tkN [20] (alN [12,13,21] (tkN [22,23,24] (alS 25 .done))))))) (.alt 11 (.alt 9 (.alt 12 (.alt 13 (tkN [18,20] (alS 21 (tkN [22,23,24] (alS 25 .done)))) (alS 18 (tkN [20] (alN [13,21] (tkN [22,23,24] (alS 25 .done)))))) (alS 18 (tkN [20] (alN [12,13,21] (tkN [22,23,24] (alS 25 .done)))))) (.alt 12 (.alt 9 (.alt 13 (tkN [18,20] (alS 21 (tkN [22,23,24] (alS 25 .done)))) (alS 18 (tkN [20] (alN [13,21] (tkN [22,23,24] (alS 25 .done)))))) (alS 18 (tkN [20] (alN [9,13,21] (tkN [22,23,24] (alS 25 .done)))))) (alS 18 (tkN [20] (.alt 9 (alN [12,13,21] (tkN [22,23,24] (alS 25 .done))) (alN [12,9,13,21] (tkN [22,23,24] (alS 25 .done)))))))) (alS 18 (tkN [20] (.alt 9 (tkN [11] (alN [12,13,21] (tkN [22,23,24] (alS 25 .done)))) (alS 11 (.alt 9 (alN [12,13,21] (tkN [22,23,24] (alS 25 .done))) (alN [12,9,13,21] (tkN [22,23,24] (alS 25 .done)))))))))) (.alt 11 (.alt 1 (.alt 9 (.alt 12 (.alt 13 (tkN [18,20] (alS 21 (tkN [22,23,24] (alS 25 .done)))) (alS 18 (tkN [20] (alN [13,21] (tkN [22,23,24] (alS 25 .done)))))) (alS 18 (tkN [20] (alN [12,13,21] (tkN [22,23,24] (alS 25 .done)))))) (.alt 12 (.alt 9 (.alt 13 (tkN [18,20] (alS 21 (tkN [22,23,24] (alS 25 .done)))) (alS 18 (tkN [20] (alN [13,21] (tkN [22,23,24] (alS 25 .done)))))) (alS 18 (tkN [20] (alN [9,13,21] (tkN [22,23,24] (alS 25 .done)))))) (alS 18 (tkN [20] (.alt 9 (alN [12,13,21] (tkN [22,23,24] (alS 25 .done))) (alN [12,9,13,21] (tkN [22,23,24] (alS 25 .done)))))))) (.alt 12 (.alt 1 (.alt 9 (.alt 13 (tkN [18,20] (alS 21 (tkN [22,23,24] (alS 25 .done)))) (alS 18 (tkN [20] (alN [13,21] (tkN [22,23,24] (alS 25 .done)))))) (alS 18 (tkN [20] (alN [9,13,21] (tkN [22,23,24] (alS 25 .done)))))) (alS 18 (tkN [20] (alN [1,9,13,21] (tkN [22,23,24] (alS 25 .done)))))) (alS 18 (tkN [20] (.alt 1 (.alt 9 (alN [12,13,21] (tkN [22,23,24] (alS 25 .done))) (alN [12,9,13,21] (tkN [22,23,24] (alS 25 .done)))) (alN [12,1,9,13,21] (tkN [22,23,24] (alS 25 .done)))))))) (alS 18 (tkN [20] (.alt 1 (.alt 9 (tkN [11] (alN [12,13,21] (tkN [22,23,24] (alS 25 .done)))) (alS 11 (.alt 9 (alN [12,13,21] (tkN [22,23,24] (alS 25 .done))) (alN [12,9,13,21] (tkN [22,23,24] (alS 25 .done)))))) (alS 11 (.alt 1 (.alt 9 (alN [12,13,21] (tkN [22,23,24] (alS 25 .done))) (alN [12,9,13,21] (tkN [22,23,24] (alS 25 .done)))) (alN [12,1,9,13,21] (tkN [22,23,24] (alS 25 .done)))))))))))] _ _ ?_
    simp[-List.getD_eq_getElem?_getD,zJT,zG0,z8,ND.rv]
    have ht:List.take (vs.length - k) (List.drop k vs)=List.drop k vs:=List.take_of_length_le (by simp)
    rw[ht,hI,hnd]
    repeat' (first | apply And.intro | intro _)
    all_goals first | rfl | omega | assumption | decide +kernel
   ·rintro ys rfl
    refine hW.vc [(7,[],tkN [0,1,2,3,4,5,6,7,8,9,10,11,12] .done)] _ _ ?_
    simp[-List.getD_eq_getElem?_getD,zJT,zG0,z8,yk,ND.rv]
    rw[←hnd,←hmg,zC (n:=2*_) (by omega),hE1]
    refine⟨by decide +kernel,fun _=>⟨fun h=>?_,fun h=>?_⟩⟩
    ·rw[if_pos h]
     exact⟨⟨sl _,by omega⟩,by and_intros<;>rfl⟩
    ·rw[if_neg (by omega)]
     and_intros<;>rfl
  ·have hI:zFN m1 vs=vs:=by
    rw[zFN,if_pos]
    rw[zQr,hk]
    simp only[Bool.and_eq_true,decide_eq_true_eq]
    exact⟨by omega,q4⟩
   rw[hI] at hE1
   have e1:({ nd with vs:=vs }:ND)=nd:=by rw[hnd]
   rw[e1] at hE1
   have e2:nd.nodes=n1:=by rw[hnd]
   rw[zC (n:=2*_) (by omega),←hnd,←hmg,hE1,e2]
   refine⟨fun h=>?_,fun h=>?_⟩
   ·rw[if_pos h]
    exact⟨⟨by have:=sl vs;rw[e1] at this;exact this,by omega⟩,by and_intros<;>rfl⟩
   ·rw[if_neg (by omega),hnd]
    and_intros<;>rfl
end
end Go.Proofs.YthogljppoiekaaaGreat
