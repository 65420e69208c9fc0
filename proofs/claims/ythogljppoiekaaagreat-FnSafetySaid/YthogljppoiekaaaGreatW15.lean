/-
  Part 15: contracts of functions, and the laws by which they are proved.
  Conditions: none.
-/
import Derived.Test.YthogljppoiekaaaGreatW12
set_option linter.unusedVariables false
set_option linter.unusedSimpArgs false
set_option linter.unusedSectionVars false
set_option maxRecDepth 100000
namespace Go.Proofs.YthogljppoiekaaaGreat
section
variable [zS]
def yC:zJ:=⟨[(.rd,.int .i64)],[.bool],true,fun _=>True,fun ps=>[.bool (inB (nth ps 0).I 1 5)],fun _=>[]⟩
theorem zFp:zh Tryz.prog 45 yC:=by
 refine zP [0,2] [.tmp 2] (zA (cs:=[]) zEj (zD (zB []))) mixed Tryz.func45 rfl (by decide) rfl (by decide) rfl ?_
 intro ps hT hpre W hW
 simp only[yC,TyA,Ty,Tys] at hT hpre
 obtain⟨_,_,rfl,⟨n,rfl,hn⟩,rfl⟩:=hT
 refine hW.vc [] _ _ ?_
 simp[-List.getD_eq_getElem?_getD,yC,zCC,zT,zT]
def zHm:zJ:=⟨[(.rd,.agg [.int .i64,.str])],[.bool],true,fun _=>True,fun ps=>[.bool (inB (nth (nth ps 0).A 0).I 1 1000&&leB (nth (nth ps 0).A 1).S.length 400)],fun _=>[]⟩
theorem zWY:zh Tryz.prog 198 zHm:=by
 refine zP [0,1,2] [.tmp 2] (zA (cs:=[]) zEj (zD (zB []))) mixed Tryz.func198 rfl (by decide) rfl (by decide) rfl ?_
 intro ps hT hpre W hW
 simp only[zHm,TyA,Ty,Tys] at hT hpre
 obtain⟨_,_,rfl,⟨_,rfl,_,_,rfl,⟨y,rfl,hy⟩,_,_,rfl,⟨c,rfl,hc⟩,rfl⟩,rfl⟩:=hT
 refine hW.vc [] _ _ ?_
 simp[-List.getD_eq_getElem?_getD,zHm,zCC,zT,zT,leB]
 exact fun _=>rfl
def zDC:zJ:=zAg
theorem zJl:zh Tryz.prog 158 zDC:=by
 refine zP [0,1,2,3] [.tmp 2] (zA (cs:=[]) zWY (zA (cs:=[]) zEj (zD (zB [])))) mixed Tryz.func158 rfl (by decide) rfl (by decide) rfl ?_
 intro ps hT hpre W hW
 simp only[zDC,TyA,Ty,Tys] at hT hpre
 simp only[zAg,TyA,Ty,Tys] at hT hpre
 obtain⟨_,_,rfl,⟨_,rfl,_,_,rfl,⟨t,rfl,ht⟩,_,_,rfl,⟨v,rfl,hv⟩,_,_,rfl,⟨es,rfl,hes,tes⟩,rfl⟩,rfl⟩:=hT
 refine hW.vc [(6,[],tkN [0,1,2,3,4] (alS 5 (tkN [6,7,8,9,10,11,12,13,14,15,16,17,18,19,20,21,22,23,24,25,26,27,28,29,30,31,32,33,34,35,36,37] .done)))] _ _ ?_
 simp[-List.getD_eq_getElem?_getD,zDC,zCC,zHm,zAg,zT,zT]
 refine fun _=>⟨fun h=>?_,fun h1 h2 h3=>?_⟩
 ·rcases h with (h | h) | h
  ·simp[stB,h]
  ·simp[stB,h]
  ·have:¬(es.length:Int)≤60:=by omega
   simp[stB,zKl,leB,this]
 have hq:stB t v es=zIr t 0 es:=by simp[stB,zKl,leB,h1,h2,h3]
 refine hW.loopS _ _ _ [.sl 3 .dp (.int .i64)] (fun ys=>∃i:Nat,ys=[.int .i64 i]∧i≤es.length∧zIr t 0 es=zIr t (pvE es i) (es.drop i)) (fun ys=>es.length - (nth ys 0).I.toNat) ?_ ?_
 ·simp[-List.getD_eq_getElem?_getD,zDC,zCC,zHm,zAg,zT]
  exact⟨0,rfl,by simp,by simp[pvE]⟩
 ·rintro ys ⟨i,rfl,g1,g2⟩
  refine hW.vc [(6,[],tkN [0,1,2,3,4] (alS 5 (tkN [6,7,8,9,10,11,12,13,14,15,16,17,18,19,20,21,22,23,24,25,26,27,28,29,30,31,32,33,34,35,36,37] .done)))] _ _ ?_
  simp[-List.getD_eq_getElem?_getD,zDC,zCC,zHm,zAg,zT,zT]
  have k2:0 < i→(IntKind.i64.wrap ((i:Int) - 1)).toNat=i - 1:=fun h=>by rw[zC (by omega)];omega
  have k3:0 < i→IntKind.i64.wrap ((i:Int) - 1)=i - 1:=fun h=>zC (by omega)
  have k0:inB t 0 1000=true→t≤1000:=fun h=>by simp[inB] at h;omega
  have k1:=k0 h1
  refine fun _=>⟨fun g3=>⟨by decide +kernel,g3,fun _ _ _=>⟨fun a b=>⟨⟨a,b⟩,g3⟩,fun _=>⟨fun a b c d=>⟨⟨⟨⟨a,b⟩,c⟩,d⟩,by rw[k3 d];omega⟩,fun a b c d=>⟨⟨⟨⟨a,b⟩,c⟩,d⟩,by rw[k2 d];omega⟩,fun _=>
   ⟨fun a b c d=>⟨⟨⟨⟨a,b⟩,c⟩,d⟩,g3⟩,fun _=>⟨fun a b c=>⟨⟨⟨a,b⟩,c⟩,fun d=>⟨⟨⟨a,b⟩,c⟩,d⟩⟩,?_⟩⟩⟩⟩⟩,?_⟩
  ·rw[zG g3,zIr] at g2
   refine⟨fun g4=>?_,fun a b c g5=>?_⟩
   ·rw[hq,g2]
    rcases g4 with ((g4 | g4) | g4) | ⟨g4,g5⟩
    ·have:inB (nth (nth es i).A 0).I 1 t=false:=by
      simp[inB] at g4 ⊢;intro q;have:=g4 q;omega
     simp[this]
    ·simp[g4]
    ·have:inB (nth (nth es i).A 0).I 1 t=false:=by
      simp[inB];intro q;omega
     simp[this]
    ·rw[k2 g4] at g5
     have:¬pvE es i≤(nth (nth es i).A 0).I:=by rw[zR2 g4];omega
     simp[this,leB]
   ·rw[zC (by omega)]
    have c':inB (nth (nth es i).A 0).I 1 t=true:=by simp[inB] at a ⊢;omega
    have k5:pvE es i≤(nth (nth es i).A 0).I:=by
     by_cases h0:0 < i
     ·have:=g5 h0
      rw[k2 h0] at this
      rw[zR2 h0];exact this
     ·have:pvE es i=0:=by rw[pvE,if_pos (by omega)]
      rw[this]
      simp[inB] at a;omega
    refine⟨⟨i+1,by omega,by omega,?_⟩,by omega⟩
    rw[g2,b,c',zVZ]
    simp[k5,leB]
  ·intro g3
   rw[List.drop_eq_nil_of_le g3,zIr] at g2
   rw[hq,g2]
def zc:zJ:=⟨[(.rd,.agg [.int .i64,.int .i64,.int .i64,.int .i64,.int .i64,.bool,.list (.agg [.int .i64,.str]),.int .i64,.int .i64,.int .i64,.list (.int .i64),.list (.int .i64),.list (.int .i64)])],[.agg [.int .i64,.int .i64,.list (.agg [.int .i64,.str])]],false,fun _=>True,fun ps=>[.agg [nth (nth ps 0).A 2,nth (nth ps 0).A 3,nth (nth ps 0).A 6]],fun _=>[]⟩
theorem zGs:zh Tryz.prog 112 zc:=by
 refine zP [0,1,2] [.cell 2 71] (zD (zB [])) mixed Tryz.func112 rfl (by decide) rfl (by decide) rfl ?_
 intro ps hT hpre W hW
 simp only[zc,TyA,Ty,Tys] at hT hpre
 obtain⟨_,_,rfl,⟨_,rfl,_,_,rfl,⟨n0,rfl,hn0⟩,_,_,rfl,⟨n1,rfl,hn1⟩,_,_,rfl,⟨n2,rfl,hn2⟩,_,_,rfl,⟨n3,rfl,hn3⟩,_,_,rfl,⟨n4,rfl,hn4⟩,_,_,rfl,⟨u,rfl⟩,_,_,rfl,⟨es,rfl,hes,tes⟩,_,_,rfl,⟨n5,rfl,hn5⟩,_,_,rfl,⟨n6,rfl,hn6⟩,_,_,rfl,⟨n7,rfl,hn7⟩,_,_,rfl,⟨vs,rfl,hvs,tvs⟩,_,_,rfl,⟨xs,rfl,hxs,txs⟩,_,_,rfl,⟨ms,rfl,hms,tms⟩,rfl⟩,rfl⟩:=hT
 refine hW.vc [] _ _ ?_
 simp[-List.getD_eq_getElem?_getD,zc]
def yl:zJ:=zo
theorem zLB:zh Tryz.prog 108 yl:=by
 refine zP [0,1,2,3,4] [.tmp 2] (zA (cs:=[]) zJl (zA (cs:=[]) zGs (zA (cs:=[]) zEj (zA (cs:=[]) zFp (zD (zB [])))))) mixed Tryz.func108 rfl (by decide) rfl (by decide) rfl ?_
 intro ps hT hpre W hW
 simp only[yl,TyA,Ty,Tys] at hT hpre
 simp only[zo,TyA,Ty,Tys] at hT hpre
 obtain⟨_,_,rfl,⟨_,rfl,_,_,rfl,⟨n0,rfl,hn0⟩,_,_,rfl,⟨n1,rfl,hn1⟩,_,_,rfl,⟨n2,rfl,hn2⟩,_,_,rfl,⟨n3,rfl,hn3⟩,_,_,rfl,⟨n4,rfl,hn4⟩,_,_,rfl,⟨u,rfl⟩,_,_,rfl,⟨es,rfl,hes,tes⟩,_,_,rfl,⟨n5,rfl,hn5⟩,_,_,rfl,⟨n6,rfl,hn6⟩,_,_,rfl,⟨n7,rfl,hn7⟩,_,_,rfl,⟨vs,rfl,hvs,tvs⟩,_,_,rfl,⟨xs,rfl,hxs,txs⟩,_,_,rfl,⟨ms,rfl,hms,tms⟩,rfl⟩,rfl⟩:=hT
 refine hW.vc [(6,[],tkN [0,1,2,3,4,5,6,7,8] (alS 9 (tkN [10,11,12,13,14,15,16,17,18,19,20,21,22] (alS 23 (tkN [24,25] .done))))),(11,[],tkN [0,1,2,3,4,5,6,7] (alS 8 (tkN [9,10,11,12,13,14,15,16,17,18,19,20,21,22,23,24,25,26,27] .done)))] _ _ ?_
 simp[-List.getD_eq_getElem?_getD,yl,yC,zCC,zc,zDC,zo,zT,zAg,zT,zAg,z8]
 by_cases hA:inB n1 1 5=true
 case neg=>
  have hno:=zXr (n0:=n0) (n1:=n1) (n2:=n2) (n3:=n3) (n4:=n4) (n5:=n5) (n6:=n6) (n7:=n7) (u:=u) (es:=es) (vs:=vs) (xs:=xs) (ms:=ms) (by simp[hA])
  refine⟨fun a=>absurd a hA,fun _=>⟨fun a=>absurd a hA,?_⟩⟩
  simp[hA,hno]
 have k1:IntKind.i64.wrap (n1 - 1)=n1 - 1:=zC (by simp[inB] at hA;omega)
 rw[k1]
 by_cases hB:inB n0 0 (n1 - 1)=true
 case neg=>
  have hno:=zXr (n0:=n0) (n1:=n1) (n2:=n2) (n3:=n3) (n4:=n4) (n5:=n5) (n6:=n6) (n7:=n7) (u:=u) (es:=es) (vs:=vs) (xs:=xs) (ms:=ms) (by simp[hB])
  refine⟨fun _ a=>absurd a hB,fun _=>⟨fun _ a=>absurd a hB,?_⟩⟩
  simp[hB,hno]
 refine⟨fun _ _=>⟨⟨hA,hB⟩,fun _ _ _=>⟨fun a b c d e f g h i j=>⟨⟨⟨⟨⟨⟨⟨⟨⟨⟨a,b⟩,c⟩,d⟩,e⟩,f⟩,g⟩,h⟩,i⟩,j⟩,fun k=>⟨⟨⟨⟨⟨⟨⟨⟨⟨⟨a,b⟩,c⟩,d⟩,e⟩,f⟩,g⟩,h⟩,i⟩,j⟩,k⟩⟩,fun h=>zXr ?_,fun _ h2 h3 h4 h5 h7 h8 h9 h10 h11 h6=>?_⟩⟩,fun h=>absurd hB (by rw[h hA];simp)⟩
 ·rcases h with (((((((((h | h) | h) | h) | h) | h) | h) | h) | h) | h) | h<;>simp[h]
 have b5:n1≤5:=by simp[inB] at hA;omega
 have hq:=zev (vs:=vs) hA h2 h3 h4 h5 h6 h7 h8 h9 h10 h11
 refine hW.loopS _ _ _ [.sl 3 .dp (.int .i64)] (fun ys=>∃j:Nat,ys=[.int .i64 j]∧j≤xs.length∧nmB es.length xs ms=nmB es.length (xs.drop j) (ms.drop j)) (fun ys=>xs.length - (nth ys 0).I.toNat) ?_ ?_
 ·simp[-List.getD_eq_getElem?_getD,yl,yC,zCC,zc,zDC,zo,zT,zAg]
  exact⟨0,rfl,by simp,by simp⟩
 ·rintro ys ⟨j,rfl,q1,q2⟩
  refine hW.vc [(6,[],tkN [0,1,2,3,4,5,6,7,8] (alS 9 (tkN [10,11,12,13,14,15,16,17,18,19,20,21,22] (alS 23 (tkN [24,25] .done))))),(11,[],tkN [0,1,2,3,4,5,6,7] (alS 8 (tkN [9,10,11,12,13,14,15,16,17,18,19,20,21,22,23,24,25,26,27] .done)))] _ _ ?_
  simp[-List.getD_eq_getElem?_getD,yl,yC,zCC,zc,zDC,zo,zT,zAg,zT,z8]
  have k6:IntKind.i64.wrap ((es.length:Int)+1)=es.length+1:=zC (by rw[LIM] at hes;omega)
  have k7:inB (nth xs j).I 1 (es.length+1)=true→IntKind.i64.wrap ((nth xs j).I - 1)=(nth xs j).I - 1:=fun h=>zC (by rw[LIM] at hes;simp[inB] at h;omega)
  rw[k6]
  refine⟨fun q3=>⟨by decide +kernel,by omega,fun _ _=>⟨fun q4=>⟨q4,by omega⟩,fun _=>⟨fun q4=>⟨q4,by omega⟩,fun _=>⟨fun q4=>?_,fun q4 q5=>?_⟩⟩⟩⟩,fun q3=>?_⟩
  ·rw[zG (by omega:j < xs.length),zG (by omega:j < ms.length),nmB] at q2
   rw[hq,q2]
   by_cases q5:inB (nth xs j).I 1 (es.length+1)=true
   ·rw[k7 q5] at q4
    rcases q4 with q4 | q4<;>simp[q4]
   ·simp[q5]
  ·rw[zG (by omega:j < xs.length),zG (by omega:j < ms.length),nmB] at q2
   rw[k7 q4] at q5
   rw[zC (by omega)]
   exact⟨⟨j+1,by omega,by omega,by rw[q2,q4,q5];simp⟩,by omega⟩
  rw[List.drop_eq_nil_of_le (by omega:xs.length≤j)] at q2
  have hq':zB9 ⟨n0,n1,n2,n3,n4,u,es,n5,n6,n7,vs,xs,ms⟩=voB n1 (-1) vs:=by rw[hq,q2];simp[nmB]
  refine hW.loopS _ _ _ [.sl 4 .dp (.int .i64)] (fun ys=>∃i:Nat,ys=[.int .i64 i]∧i≤vs.length∧voB n1 (-1) vs=voB n1 (pvV vs i) (vs.drop i)) (fun ys=>vs.length - (nth ys 0).I.toNat) ?_ ?_
  ·simp[-List.getD_eq_getElem?_getD,yl,yC,zCC,zc,zDC,zo,zT,zAg]
   exact⟨0,rfl,by simp,by simp[pvV]⟩
  ·rintro ys ⟨i,rfl,g1,g2⟩
   refine hW.vc [(6,[],tkN [0,1,2,3,4,5,6,7,8] (alS 9 (tkN [10,11,12,13,14,15,16,17,18,19,20,21,22] (alS 23 (tkN [24,25] .done))))),(11,[],tkN [0,1,2,3,4,5,6,7] (alS 8 (tkN [9,10,11,12,13,14,15,16,17,18,19,20,21,22,23,24,25,26,27] .done)))] _ _ ?_
   simp[-List.getD_eq_getElem?_getD,yl,yC,zCC,zc,zDC,zo,zT,zAg,zT,z8]
   rw[k1]
   have hv':vs.length≤140737488355328:=hvs
   have k2:0 < i→(IntKind.i64.wrap ((i:Int) - 1)).toNat=i - 1:=fun h=>by rw[zC (by omega)];omega
   have k3:0 < i→IntKind.i64.wrap ((i:Int) - 1)=i - 1:=fun h=>zC (by omega)
   refine fun _=>⟨fun g3=>⟨by decide +kernel,g3,fun _=>⟨fun a b=>⟨⟨a,b⟩,by rw[k3 b];omega⟩,fun a b=>⟨⟨a,b⟩,by rw[k2 b];omega⟩,fun _=>⟨fun a b=>⟨⟨a,b⟩,g3⟩,fun _=>⟨fun a=>⟨a,fun b=>⟨a,b⟩⟩,?_⟩⟩⟩⟩,fun g3=>?_⟩
   ·rw[zG g3,voB] at g2
    refine⟨fun g4=>?_,fun g4 g5=>?_⟩
    ·rw[hq',g2]
     rcases g4 with g4 | ⟨g4,g5⟩
     ·simp[g4]
     ·rw[k2 g4] at g5
      have:¬pvV vs i < (nth vs i).I:=by rw[zR1 g4];omega
      simp[this]
    ·rw[zC (by omega)]
     have k5:pvV vs i < (nth vs i).I:=by
      by_cases h0:0 < i
      ·have:=g5 h0
       rw[k2 h0] at this
       rw[zR1 h0];exact this
      ·have:pvV vs i=-1:=by rw[pvV,if_pos (by omega)]
       rw[this]
       simp[inB] at g4;omega
     refine⟨⟨i+1,by omega,by omega,?_⟩,by omega⟩
     rw[g2,g4,zVY]
     simp[k5]
   ·rw[hq',g2,List.drop_eq_nil_of_le g3,voB]
def zAz:zJ:=zj
theorem zI2:zh Tryz.prog 96 zAz:=by
 refine zP [0,1,2] [.cell 2 77] (zD (zB [])) mixed Tryz.func96 rfl (by decide) rfl (by decide) rfl ?_
 intro ps hT hpre W hW
 simp only[zAz,TyA,Ty,Tys] at hT hpre
 simp only[zj,TyA,Ty,Tys] at hT hpre
 obtain⟨_,_,rfl,⟨_,rfl,_,_,rfl,⟨n0,rfl,hn0⟩,_,_,rfl,⟨n1,rfl,hn1⟩,_,_,rfl,⟨n2,rfl,hn2⟩,_,_,rfl,⟨n3,rfl,hn3⟩,_,_,rfl,⟨n4,rfl,hn4⟩,_,_,rfl,⟨u,rfl⟩,_,_,rfl,⟨es,rfl,hes,tes⟩,_,_,rfl,⟨n5,rfl,hn5⟩,_,_,rfl,⟨n6,rfl,hn6⟩,_,_,rfl,⟨n7,rfl,hn7⟩,_,_,rfl,⟨vs,rfl,hvs,tvs⟩,_,_,rfl,⟨xs,rfl,hxs,txs⟩,_,_,rfl,⟨ms,rfl,hms,tms⟩,rfl⟩,rfl⟩:=hT
 simp only[zE,zF,zBE,zAA] at hpre
 refine hW.vc [] _ _ ?_
 simp[-List.getD_eq_getElem?_getD,zAz,zj]
 exact⟨by omega,by omega,by omega,by omega⟩
def zEs:zJ:=⟨[(.rd,.agg [.int .i64,.int .i64,.int .i64,.int .i64,.int .i64,.bool,.list (.agg [.int .i64,.str]),.int .i64,.int .i64,.int .i64,.list (.int .i64),.list (.int .i64),.list (.int .i64)]),(.rd,.int .i64)],[.int .i64],true,fun ps=>0≤(nth ps 1).I∧(nth ps 1).I≤(nth (nth ps 0).A 6).L.length,fun ps=>[.int .i64 (zCI (nth (nth ps 0).A 6).L (nth ps 1).I)],fun _=>[]⟩
theorem zNT:zh Tryz.prog 214 zEs:=by
 refine zP [0,1,2,4] [.tmp 4] (zD (zB [])) mixed Tryz.func214 rfl (by decide) rfl (by decide) rfl ?_
 intro ps hT hpre W hW
 simp only[zEs,TyA,Ty,Tys] at hT hpre
 obtain⟨_,_,rfl,⟨_,rfl,_,_,rfl,⟨n0,rfl,hn0⟩,_,_,rfl,⟨n1,rfl,hn1⟩,_,_,rfl,⟨n2,rfl,hn2⟩,_,_,rfl,⟨n3,rfl,hn3⟩,_,_,rfl,⟨n4,rfl,hn4⟩,_,_,rfl,⟨u,rfl⟩,_,_,rfl,⟨es,rfl,hes,tes⟩,_,_,rfl,⟨n5,rfl,hn5⟩,_,_,rfl,⟨n6,rfl,hn6⟩,_,_,rfl,⟨n7,rfl,hn7⟩,_,_,rfl,⟨vs,rfl,hvs,tvs⟩,_,_,rfl,⟨xs,rfl,hxs,txs⟩,_,_,rfl,⟨ms,rfl,hms,tms⟩,rfl⟩,_,_,rfl,⟨p,rfl,hp⟩,rfl⟩:=hT
 simp only[zE,zF,zBE,zAA,yp] at hpre
 refine hW.vc [] _ _ ?_
 simp[-List.getD_eq_getElem?_getD,zEs]
 refine⟨fun h=>by rw[zCI,if_pos h],fun h=>?_⟩
 rw[LIM] at hes
 rw[zC (by omega)]
 exact⟨⟨by omega,by omega⟩,by omega,fun _=>by rw[zCI,if_neg h]⟩
def zLR:zJ:=⟨[(.bx,.box [.int .i64,.int .i64,.int .i64,.int .i64,.int .i64,.bool,.list (.agg [.int .i64,.str]),.int .i64,.int .i64,.int .i64,.list (.int .i64),.list (.int .i64),.list (.int .i64),.list (.agg [.int .i64,.int .i64,.int .i64,.int .i64,.int .i64,.int .i64,.int .i64,.bool,.list (.agg [.int .i64,.str])])]),(.ow,.agg [.int .i64,.int .i64,.int .i64,.int .i64,.int .i64,.int .i64,.int .i64,.bool,.list (.agg [.int .i64,.str])])],[],true,fun ps=>(nth (nth ps 0).A 13).L.length≤1000,fun _=>[],
 fun ps=>[.agg [nth (nth ps 0).A 0,nth (nth ps 0).A 1,nth (nth ps 0).A 2,nth (nth ps 0).A 3,nth (nth ps 0).A 4,nth (nth ps 0).A 5,nth (nth ps 0).A 6,nth (nth ps 0).A 7,nth (nth ps 0).A 8,nth (nth ps 0).A 9,nth (nth ps 0).A 10,nth (nth ps 0).A 11,nth (nth ps 0).A 12,.list ((nth (nth ps 0).A 13).L++[.agg [nth (nth ps 1).A 0,nth (nth ps 0).A 0,nth (nth ps 1).A 2,nth (nth ps 0).A 2,nth (nth ps 1).A 4,nth (nth ps 1).A 5,nth (nth ps 1).A 6,nth (nth ps 1).A 7,nth (nth ps 1).A 8]])]]⟩
theorem zVn:zh Tryz.prog 213 zLR:=by
 refine zP [0,1,3] [] (zD (zB [])) mixed Tryz.func213 rfl (by decide) rfl (by decide) rfl ?_
 intro ps hT hpre W hW
 simp only[zLR,TyA,Ty,Tys] at hT hpre
 obtain⟨_,_,rfl,⟨_,rfl,_,_,rfl,⟨n0,rfl,hn0⟩,_,_,rfl,⟨n1,rfl,hn1⟩,_,_,rfl,⟨n2,rfl,hn2⟩,_,_,rfl,⟨n3,rfl,hn3⟩,_,_,rfl,⟨n4,rfl,hn4⟩,_,_,rfl,⟨u,rfl⟩,_,_,rfl,⟨es,rfl,hes,tes⟩,_,_,rfl,⟨n5,rfl,hn5⟩,_,_,rfl,⟨n6,rfl,hn6⟩,_,_,rfl,⟨n7,rfl,hn7⟩,_,_,rfl,⟨vs,rfl,hvs,tvs⟩,_,_,rfl,⟨xs,rfl,hxs,txs⟩,_,_,rfl,⟨ms,rfl,hms,tms⟩,_,_,rfl,⟨out,rfl,hout,tout⟩,rfl⟩,_,_,rfl,⟨_,rfl,_,_,rfl,⟨m0,rfl,hm0⟩,_,_,rfl,⟨m1,rfl,hm1⟩,_,_,rfl,⟨m2,rfl,hm2⟩,_,_,rfl,⟨m3,rfl,hm3⟩,_,_,rfl,⟨m4,rfl,hm4⟩,_,_,rfl,⟨m5,rfl,hm5⟩,_,_,rfl,⟨m6,rfl,hm6⟩,_,_,rfl,⟨m7,rfl⟩,_,_,rfl,⟨m8,rfl,hm8,tm8⟩,rfl⟩,rfl⟩:=hT
 simp only[zE,zF,zBE,zAA,yp] at hpre
 refine hW.vc [(5,[7,10],tkN [0,1,2,3,4,5] (alN [6,7] (tkN [8,9] (alS 10 .done))))] _ _ ?_
 simp[-List.getD_eq_getElem?_getD,zLR]
 exact fun _=>⟨fun h=>⟨by decide +kernel,by omega,fun _=>h⟩,fun h=>⟨by decide +kernel,by omega⟩⟩
end
end Go.Proofs.YthogljppoiekaaaGreat
