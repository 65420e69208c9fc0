/-
  Part 16: contracts of functions, and the laws by which they are proved.
  Conditions: none.
-/
import Derived.Test.YthogljppoiekaaaGreatW15
set_option linter.unusedVariables false
set_option linter.unusedSimpArgs false
set_option linter.unusedSectionVars false
set_option maxRecDepth 100000
namespace Go.Proofs.YthogljppoiekaaaGreat
section
variable [zS]
def zQi:zJ:=⟨[(.bx,.box [.int .i64,.int .i64,.int .i64,.int .i64,.int .i64,.bool,.list (.agg [.int .i64,.str]),.int .i64,.int .i64,.int .i64,.list (.int .i64),.list (.int .i64),.list (.int .i64),.list (.agg [.int .i64,.int .i64,.int .i64,.int .i64,.int .i64,.int .i64,.int .i64,.bool,.list (.agg [.int .i64,.str])])]),(.rd,.int .i64)],[],true,fun ps=>(nth (nth ps 0).A 13).L.length≤1000∧zUV (z8 (nth ps 0).A) (nth ps 1).I,fun _=>[],
 fun ps=>[.agg [nth (nth ps 0).A 0,nth (nth ps 0).A 1,nth (nth ps 0).A 2,nth (nth ps 0).A 3,nth (nth ps 0).A 4,nth (nth ps 0).A 5,nth (nth ps 0).A 6,nth (nth ps 0).A 7,nth (nth ps 0).A 8,nth (nth ps 0).A 9,nth (nth ps 0).A 10,nth (nth ps 0).A 11,nth (nth ps 0).A 12,.list ((nth (nth ps 0).A 13).L++[zOc (z8 (nth ps 0).A) (nth ps 1).I])]]⟩
set_option maxHeartbeats 4000000 in
theorem zau:zh Tryz.prog 182 zQi:=by
 refine zP [0,1,4] [] (zA (cs:=[]) zVn (zA (cs:=[]) zNT (zD (zB [])))) mixed Tryz.func182 rfl (by decide) rfl (by decide) rfl ?_
 intro ps hT hpre W hW
 simp only[zQi,TyA,Ty,Tys] at hT hpre
 obtain⟨_,_,rfl,⟨_,rfl,_,_,rfl,⟨n0,rfl,hn0⟩,_,_,rfl,⟨n1,rfl,hn1⟩,_,_,rfl,⟨n2,rfl,hn2⟩,_,_,rfl,⟨n3,rfl,hn3⟩,_,_,rfl,⟨n4,rfl,hn4⟩,_,_,rfl,⟨u,rfl⟩,_,_,rfl,⟨es,rfl,hes,tes⟩,_,_,rfl,⟨n5,rfl,hn5⟩,_,_,rfl,⟨n6,rfl,hn6⟩,_,_,rfl,⟨n7,rfl,hn7⟩,_,_,rfl,⟨vs,rfl,hvs,tvs⟩,_,_,rfl,⟨xs,rfl,hxs,txs⟩,_,_,rfl,⟨ms,rfl,hms,tms⟩,_,_,rfl,⟨out,rfl,hout,tout⟩,rfl⟩,_,_,rfl,⟨to,rfl,hto⟩,rfl⟩:=hT
 simp only[zE,zF,zBE,zAA,yp,zNq,z8,zUV] at hpre
 refine hW.vc [(1,[22,24],tkN [0,1,2,3,4,5,6,7,9,10,11,12,15,16,17,18,19,20] (.alt 8 (.alt 13 (.alt 14 (alN [21,22] (tkN [23] (alS 24 .done))) (alN [21,14,22] (tkN [23] (alS 24 .done)))) (.alt 14 (.alt 13 (alN [21,22] (tkN [23] (alS 24 .done))) (alS 21 (.alt 13 (alS 22 (tkN [23] (alS 24 .done))) (alS 22 (tkN [13,23] (alS 24 .done)))))) (alS 21 (.alt 13 (alN [14,22] (tkN [23] (alS 24 .done))) (alS 14 (.alt 13 (alS 22 (tkN [23] (alS 24 .done))) (alS 22 (tkN [13,23] (alS 24 .done))))))))) (.alt 13 (.alt 8 (.alt 14 (alN [21,22] (tkN [23] (alS 24 .done))) (alN [21,14,22] (tkN [23] (alS 24 .done)))) (.alt 14 (.alt 8 (alN [21,22] (tkN [23] (alS 24 .done))) (alN [21,8,22] (tkN [23] (alS 24 .done)))) (alS 21 (.alt 8 (alN [14,22] (tkN [23] (alS 24 .done))) (alN [14,8,22] (tkN [23] (alS 24 .done))))))) (.alt 14 (.alt 8 (.alt 13 (alN [21,22] (tkN [23] (alS 24 .done))) (alS 21 (.alt 13 (alS 22 (tkN [23] (alS 24 .done))) (alS 22 (tkN [13,23] (alS 24 .done)))))) (.alt 13 (.alt 8 (alN [21,22] (tkN [23] (alS 24 .done))) (alN [21,8,22] (tkN [23] (alS 24 .done)))) (alS 21 (.alt 8 (.alt 13 (alS 22 (tkN [23] (alS 24 .done))) (alS 22 (tkN [13,23] (alS 24 .done)))) (alN [13,8,22] (tkN [23] (alS 24 .done))))))) (alS 21 (.alt 8 (.alt 13 (alN [14,22] (tkN [23] (alS 24 .done))) (alS 14 (.alt 13 (alS 22 (tkN [23] (alS 24 .done))) (alS 22 (tkN [13,23] (alS 24 .done)))))) (.alt 13 (.alt 8 (alN [14,22] (tkN [23] (alS 24 .done))) (alN [14,8,22] (tkN [23] (alS 24 .done)))) (alS 14 (.alt 8 (.alt 13 (alS 22 (tkN [23] (alS 24 .done))) (alS 22 (tkN [13,23] (alS 24 .done)))) (alN [13,8,22] (tkN [23] (alS 24 .done))))))))))))] _ _ ?_
 simp[-List.getD_eq_getElem?_getD,zQi,zEs,zLR,z8]
 obtain⟨p0,p1,p2,p3,p4,p5⟩:=hpre
 rw[zC (n:=(nth xs to.toNat).I - 1) (by omega)]
 have e:((nth xs to.toNat).I - 1).toNat=(nth xs to.toNat).I.toNat - 1:=by omega
 have e2:PV.agg [PV.int IntKind.i64 3,PV.int IntKind.i64 n0,PV.int IntKind.i64 to,PV.int IntKind.i64 n2,PV.int IntKind.i64 ((nth xs to.toNat).I - 1),PV.int IntKind.i64 (zCI es ((nth xs to.toNat).I - 1)),PV.int IntKind.i64 n5,PV.bool false,
   PV.list (List.take (es.length - ((nth xs to.toNat).I - 1).toNat) (List.drop ((nth xs to.toNat).I - 1).toNat es))]=zOc ⟨n0,n1,n2,n3,n4,u,es,n5,n6,n7,vs,xs,ms⟩ to:=by
  rw[List.take_of_length_le (by simp),e];rfl
 exact⟨⟨p1,p2⟩,by omega,fun _=>⟨by decide +kernel,⟨⟨by omega,by omega⟩,fun _=>⟨by omega,p0,e2⟩⟩,⟨by omega,by omega⟩,fun _=>⟨⟨by omega,by omega⟩,by omega,p0,e2⟩⟩⟩
def zQ9:zJ:=⟨[(.bx,.box [.int .i64,.int .i64,.int .i64,.int .i64,.int .i64,.bool,.list (.agg [.int .i64,.str]),.int .i64,.int .i64,.int .i64,.list (.int .i64),.list (.int .i64),.list (.int .i64),.list (.agg [.int .i64,.int .i64,.int .i64,.int .i64,.int .i64,.int .i64,.int .i64,.bool,.list (.agg [.int .i64,.str])])])],[],true,fun ps=>(nth (nth ps 0).A 13).L.length≤990∧zKg (z8 (nth ps 0).A),fun _=>[],
 fun ps=>[.agg [nth (nth ps 0).A 0,nth (nth ps 0).A 1,nth (nth ps 0).A 2,nth (nth ps 0).A 3,nth (nth ps 0).A 4,nth (nth ps 0).A 5,nth (nth ps 0).A 6,nth (nth ps 0).A 7,nth (nth ps 0).A 8,nth (nth ps 0).A 9,nth (nth ps 0).A 10,nth (nth ps 0).A 11,nth (nth ps 0).A 12,.list ((nth (nth ps 0).A 13).L++zAx (z8 (nth ps 0).A) (nth (nth ps 0).A 1).I.toNat)]]⟩
theorem zbo:zh Tryz.prog 144 zQ9:=by
 refine zP [0,2] [] (zA (cs:=[]) zau (zD (zB []))) mixed Tryz.func144 rfl (by decide) rfl (by decide) rfl ?_
 intro ps hT hpre W hW
 simp only[zQ9,TyA,Ty,Tys] at hT hpre
 obtain⟨_,_,rfl,⟨_,rfl,_,_,rfl,⟨n0,rfl,hn0⟩,_,_,rfl,⟨n1,rfl,hn1⟩,_,_,rfl,⟨n2,rfl,hn2⟩,_,_,rfl,⟨n3,rfl,hn3⟩,_,_,rfl,⟨n4,rfl,hn4⟩,_,_,rfl,⟨u,rfl⟩,_,_,rfl,⟨es,rfl,hes,tes⟩,_,_,rfl,⟨n5,rfl,hn5⟩,_,_,rfl,⟨n6,rfl,hn6⟩,_,_,rfl,⟨n7,rfl,hn7⟩,_,_,rfl,⟨vs,rfl,hvs,tvs⟩,_,_,rfl,⟨xs,rfl,hxs,txs⟩,_,_,rfl,⟨ms,rfl,hms,tms⟩,_,_,rfl,⟨out,rfl,hout,tout⟩,rfl⟩,rfl⟩:=hT
 simp only[zE,zF,zBE,zAA,yp,zNq,z8,zKg] at hpre
 refine hW.vc [] _ _ ?_
 simp[-List.getD_eq_getElem?_getD,zQ9,zQi,z8]
 obtain⟨p0,p1,p2,p3⟩:=hpre
 obtain⟨nd,hnd⟩:∃nd:ND,nd=⟨n0,n1,n2,n3,n4,u,es,n5,n6,n7,vs,xs,ms⟩:=⟨_,rfl⟩
 refine hW.loopS _ _ _ [.bx 0 [.int .i64,.int .i64,.int .i64,.int .i64,.int .i64,.bool,.list (.agg [.int .i64,.str]),.int .i64,.int .i64,.int .i64,.list (.int .i64),.list (.int .i64),.list (.int .i64),.list (.agg [.int .i64,.int .i64,.int .i64,.int .i64,.int .i64,.int .i64,.int .i64,.bool,.list (.agg [.int .i64,.str])])],.sl 2 .dp (.int .i64)] (fun ys=>∃i:Nat,ys=[.agg [.int .i64 n0,.int .i64 n1,.int .i64 n2,.int .i64 n3,.int .i64 n4,.bool u,.list es,.int .i64 n5,.int .i64 n6,.int .i64 n7,.list vs,.list xs,.list ms,.list (out++zAx nd i)],.int .i64 i]∧(i:Int)≤n1) (fun ys=>n1.toNat - (nth ys 1).I.toNat) ?_ ?_
 ·simp[-List.getD_eq_getElem?_getD,zQ9,zQi]
  exact⟨0,⟨by simp[zAx],rfl⟩,by omega⟩
 ·rintro ys ⟨i,rfl,g1⟩
  refine hW.vc [] _ _ ?_
  simp[-List.getD_eq_getElem?_getD,zQ9,zQi,z8]
  have hl:=zN3 nd i
  rw[←hnd,zC (n:=(i:Int)+1) (by omega)]
  refine⟨fun q2=>⟨fun q3=>⟨⟨by omega,by rw[hnd];exact p3 i q2⟩,⟨i+1,⟨?_,rfl⟩,by omega⟩,by omega⟩,fun q3=>⟨⟨i+1,⟨?_,rfl⟩,by omega⟩,by omega⟩⟩,fun q2=>?_⟩
  ·rw[zAx,if_neg (by rw[hnd];exact q3)]
  ·rw[zAx,if_pos (by rw[hnd];exact q3),List.append_nil]
  ·have:i=n1.toNat:=by omega
   rw[this]
end
end Go.Proofs.YthogljppoiekaaaGreat
