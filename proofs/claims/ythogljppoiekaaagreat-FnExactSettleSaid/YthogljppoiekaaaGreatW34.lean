/-
  Part 34: contracts of functions, and the laws by which they are proved.
  Conditions: none.
-/
import Derived.Test.YthogljppoiekaaaGreatW9
import Derived.Test.YthogljppoiekaaaGreatW33
set_option linter.unusedVariables false
set_option linter.unusedSimpArgs false
set_option linter.unusedSectionVars false
set_option maxRecDepth 100000
namespace Go.Proofs.YthogljppoiekaaaGreat
section
variable [zS]
def zCg:zJ:=⟨[(.rd,.str)],[.str],true,fun ps=>(nth ps 0).S.length≤1000000,fun ps=>[.str (zMn (nth ps 0).S)],fun _=>[]⟩
theorem zYC:zh Tryz.prog 186 zCg:=by
 refine zP [0,2,3] [.tmp 2] (zA (cs:=[]) zTZ (zA (cs:=[]) zOC (zD (zB [])))) mixed Tryz.func186 rfl (by decide) rfl (by decide) rfl ?_
 intro ps hT hpre W hW
 simp only[zCg,TyA,Ty,Tys] at hT hpre
 obtain⟨_,_,rfl,⟨d,rfl,hd⟩,rfl⟩:=hT
 simp only[zE,zEW] at hpre
 refine hW.vc [] _ _ ?_
 simp[-List.getD_eq_getElem?_getD,zCg,zAO,zEv]
 intro _
 simp only[zFB]
 exact⟨by omega,by omega,by omega,by omega,rfl⟩
def zHo:zJ:=⟨[(.rd,.str)],[.list (.int .u8)],true,fun ps=>(nth ps 0).S.length≤1000000,fun ps=>[.list (zAN (zMn (nth ps 0).S))],fun _=>[]⟩
theorem zWb:zh Tryz.prog 177 zHo:=by
 refine zP [0,2,3] [.tmp 2] (zA (cs:=[]) zRa (zA (cs:=[]) zMe (zD (zB [])))) mixed Tryz.func177 rfl (by decide) rfl (by decide) rfl ?_
 intro ps hT hpre W hW
 simp only[zHo,TyA,Ty,Tys] at hT hpre
 obtain⟨_,_,rfl,⟨d,rfl,hd⟩,rfl⟩:=hT
 simp only[zE,zEW] at hpre
 refine hW.vc [] _ _ ?_
 simp[-List.getD_eq_getElem?_getD,zHo,zCn,zDr]
 intro _
 have e:zFD (zAN (nB d.length 3)++zAN d)=nB d.length 3++d:=by rw[←zFf,zCW]
 simp only[e,zCo,zFB]
 exact⟨by omega,by omega,fun _=>⟨by omega,by omega,fun _=>⟨by omega,fun _=>by rw[zMn,zFf,zFf]⟩⟩⟩
theorem zSA(l:List PV)(k j:Nat):nth (List.drop k l) j=nth l (k+j):=by simp[nth,List.getElem?_drop]
theorem zLc{a b:Prop}(h:¬a∨¬b):¬(a∧b):=fun q=>h.elim (fun k=>k q.1) (fun k=>k q.2)
theorem zIw{f:PV→PV}{es:List PV}{k i:Nat}(h:k+i < es.length):List.take i (List.drop k (List.map f es))++[f (nth es (k+i))]=List.take (i+1) (List.drop k (List.map f es)):=by
 rw[List.take_succ_eq_append_getElem (by simp;omega)]
 simp[nth,h]
theorem zK2(a:Int):(zD4 [.int .i64 a]).length≤1048576:=by
 rw[zCF];simp
theorem zXj(a b:Int):(zD4 [.int .i64 a,.int .i64 b]).length≤1048576:=by
 rw[zCF];simp
theorem zOI{es:List PV}(h1:es.length≤60)(h2:∀e∈es,e.S.length≤20000)(h3:(zCM es).length≤65536):(zHS es).1=zCM es:=by
 have h:es.any (fun e=>zOs e.S)=false:=by
  simp only[List.any_eq_false]
  intro e he
  have:=h2 e he
  simp[zOs];omega
 rw[zHS,if_neg (by omega),h,if_neg (by simp),if_neg (by omega)]
theorem frT(a b:Int):(zHS [.str [116],.str (zD4 [.int .i64 a,.int .i64 b])]).1=zVU a b:=by
 have hl:(zD4 [.int .i64 a,.int .i64 b]).length=6:=by rw[zCF];rfl
 refine zOI (by simp) ?_ ?_
 ·intro e he
  rcases List.mem_cons.1 he with rfl | he
  ·simp[zEW]
  ·rw[List.mem_singleton.1 he,zEW];omega
 ·rw[zEn,hl];simp
theorem frC(k:Nat):(zHS [.str [99],.str (zD4 [.int .i64 (k:Int)])]).1=zVV k:=by
 have hl:(zD4 [.int .i64 (k:Int)]).length=3:=by rw[zCF];rfl
 refine zOI (by simp) ?_ ?_
 ·intro e he
  rcases List.mem_cons.1 he with rfl | he
  ·simp[zEW]
  ·rw[List.mem_singleton.1 he,zEW];omega
 ·rw[zEn,hl];simp
theorem frE(a:Int)(d:List UInt8)(h:d.length≤1000):(zHS [.str [101],.str (zD4 [.int .i64 a]),.str d]).1=zCM [.str [101],.str (zD4 [.int .i64 a]),.str d]:=by
 have hl:(zD4 [.int .i64 a]).length=3:=by rw[zCF];rfl
 refine zOI (by simp) ?_ ?_
 ·intro e he
  rcases List.mem_cons.1 he with rfl | he
  ·simp[zEW]
  ·rcases List.mem_cons.1 he with rfl | he
   ·rw[zEW];omega
   ·rw[List.mem_singleton.1 he,zEW];omega
 ·rw[zHc,hl];simp;omega
def zf:zJ:=⟨[(.rd,.agg [.int .i64,.int .i64,.list (.agg [.int .i64,.str])]),(.rd,.agg [.int .i64,.int .i64,.list (.agg [.int .i64,.str])])],[.list .str],true,fun ps=>(zEy (nth ps 0).A).wk∧(zEy (nth ps 1).A).wk,fun ps=>[.list (zBR (zEy (nth ps 0).A) (zEy (nth ps 1).A))],fun _=>[]⟩
set_option maxHeartbeats 2000000 in
theorem zQK:zh Tryz.prog 150 zf:=by
 refine zP [0,1,2,3,4,5,6,8,72,73,74] [.tmp 4] (zA (cs:=[]) zUm (zA (cs:=[]) zZh (zD (zB [])))) mixed Tryz.func150 rfl (by decide) rfl (by decide) rfl ?_
 intro ps hT hpre W hW
 simp only[zf,TyA,Ty,Tys] at hT hpre
 obtain⟨_,_,rfl,⟨_,rfl,_,_,rfl,⟨t,rfl,ht⟩,_,_,rfl,⟨v,rfl,hv⟩,_,_,rfl,⟨es,rfl,hes,tes⟩,rfl⟩,_,_,rfl,⟨_,rfl,_,_,rfl,⟨t2,rfl,ht2⟩,_,_,rfl,⟨v2,rfl,hv2⟩,_,_,rfl,⟨es2,rfl,hes2,tes2⟩,rfl⟩,rfl⟩:=hT
 simp only[zE,zF,zBE,zAA,yp,zEy,ST.wk] at hpre
 refine hW.vc [(5,[],tkN [0,1,2,3,4,5,6,7,8,9,10,11,12,13,14,15,16,17,18,19,20,21] .done),(12,[10],tkN [0,1,2,5,6] (alN [3,4,7,8,9,10,11] .done))] _ _ ?_
 simp[-List.getD_eq_getElem?_getD,zf,zDd,zAQ,zEy]
 obtain⟨⟨p1,p2,p3,p4⟩,p5,p6,p7,p8⟩:=hpre
 have cl:=zQf es es2
 refine⟨fun h1=>⟨by decide,by omega,by decide,?_⟩,fun h1 h2=>?_⟩
 ·refine hW.loopS _ _ _ [.sl 6 .dp (.int .i64)] (fun ys=>∃i:Nat,ys=[.int .i64 i]∧i≤zBk es es2) (fun ys=>es.length - (nth ys 0).I.toNat) ?_ ?_
  ·simp[-List.getD_eq_getElem?_getD,zf,zDd,zAQ]
   exact⟨0,rfl,by omega⟩
  ·rintro ys ⟨i,rfl,g1⟩
   refine hW.vc [(5,[],tkN [0,1,2,3,4,5,6,7,8,9,10,11,12,13,14,15,16,17,18,19,20,21] .done),(12,[10],tkN [0,1,2,5,6] (alN [3,4,7,8,9,10,11] .done))] _ _ ?_
   simp[-List.getD_eq_getElem?_getD,zf,zDd,zAQ,zEy]
   have eM:(if es2.length < es.length then (es2.length:Int) else es.length)=(min es.length es2.length:Nat):=by split<;>omega
   rw[eM]
   refine⟨by decide +kernel,fun _ _=>⟨fun a=>⟨a,by omega⟩,fun _=>⟨fun a=>⟨a,by omega⟩,fun _=>⟨fun a=>⟨a,by decide +kernel⟩,fun a c d=>?_,fun h=>?_⟩⟩⟩⟩
   ·have:=(zIa g1 (by omega) (by omega)).1 (zGL c d)
    rw[zC (by omega)]
    exact⟨⟨i+1,by omega,by omega⟩,by omega⟩
   ·obtain rfl:i=zBk es es2:=by
     by_cases a:i < es.length
     ·by_cases b:i < es2.length
      ·rw[(zIa g1 a b).2 (zGM (h (by omega)))]
      ·omega
     ·omega
    refine fun _=>⟨fun h3=>⟨by omega,by decide,by omega,fun _ _=>?_⟩,fun h3=>⟨by omega,fun _ _=>?_⟩⟩
    ·have hP:zBR ⟨t,v,es⟩ ⟨t2,v2,es2⟩=[.str (zVU t2 v2),.str (zVV (zBk es es2))]++(es2.drop (zBk es es2)).map fun e=>.str (zPj e):=by
      simp only[zBR,zIp,zJK,zLp,if_neg (zLc h1),if_pos h3];rfl
     refine hW.loopS _ _ _ [.sl 5 .dp (.list .str),.sl 74 .dp (.int .i64)] (fun ys=>∃j:Nat,ys=[.list ([.str (zVU t2 v2),.str (zVV (zBk es es2))]++((es2.drop (zBk es es2)).take j).map fun e=>.str (zPj e)),.int .i64 j]∧zBk es es2+j≤es2.length) (fun ys=>es2.length - (nth ys 1).I.toNat) ?_ ?_
     ·simp[-List.getD_eq_getElem?_getD,zf,zDd,zAQ]
      refine⟨0,?_,by omega⟩
      exact⟨⟨frT t2 v2,frC _,.inl rfl⟩,rfl⟩
     ·rintro ys ⟨j,rfl,g2⟩
      refine hW.vc [(5,[],tkN [0,1,2,3,4,5,6,7,8,9,10,11,12,13,14,15,16,17,18,19,20,21] .done),(12,[10],tkN [0,1,2,5,6] (alN [3,4,7,8,9,10,11] .done))] _ _ ?_
      simp[-List.getD_eq_getElem?_getD,zf,zDd,zAQ,zEy]
      have eT:List.take (es2.length - zBk es es2) (List.drop (zBk es es2) es2)=List.drop (zBk es es2) es2:=List.take_of_length_le (by simp)
      simp only[eT,zSA]
      refine⟨fun k3=>⟨k3,fun _ _ _=>⟨by decide +kernel,?_⟩⟩,fun k3=>?_⟩
      ·clear hW
       have hm:=p8 _ (zb (by omega:zBk es es2+j < es2.length))
       rw[frE _ _ hm.2.2]
       refine⟨by omega,by decide,by omega,fun _=>⟨⟨j+1,⟨zIw (by omega),by rw[zC (by omega)];omega⟩,by omega⟩,by rw[zC (by omega)];omega⟩⟩
      ·rw[hP,List.take_of_length_le (by simp;omega),List.map_drop];rfl
    ·have hP:zBR ⟨t,v,es⟩ ⟨t2,v2,es2⟩=[.str (zVU t2 v2)]++(es2.drop (zBk es es2)).map fun e=>.str (zPj e):=by
      simp only[zBR,zIp,zJK,zLp,if_neg (zLc h1),if_neg (show ¬zBk es es2 < es.length by omega)];rfl
     refine hW.loopS _ _ _ [.sl 5 .dp (.list .str),.sl 74 .dp (.int .i64)] (fun ys=>∃j:Nat,ys=[.list ([.str (zVU t2 v2)]++((es2.drop (zBk es es2)).take j).map fun e=>.str (zPj e)),.int .i64 j]∧zBk es es2+j≤es2.length) (fun ys=>es2.length - (nth ys 1).I.toNat) ?_ ?_
     ·simp[-List.getD_eq_getElem?_getD,zf,zDd,zAQ]
      refine⟨0,?_,by omega⟩
      exact⟨⟨frT t2 v2,.inl rfl⟩,rfl⟩
     ·rintro ys ⟨j,rfl,g2⟩
      refine hW.vc [(5,[],tkN [0,1,2,3,4,5,6,7,8,9,10,11,12,13,14,15,16,17,18,19,20,21] .done),(12,[10],tkN [0,1,2,5,6] (alN [3,4,7,8,9,10,11] .done))] _ _ ?_
      simp[-List.getD_eq_getElem?_getD,zf,zDd,zAQ,zEy]
      have eT:List.take (es2.length - zBk es es2) (List.drop (zBk es es2) es2)=List.drop (zBk es es2) es2:=List.take_of_length_le (by simp)
      simp only[eT,zSA]
      refine⟨fun k3=>⟨k3,fun _ _ _=>⟨by decide +kernel,?_⟩⟩,fun k3=>?_⟩
      ·clear hW
       have hm:=p8 _ (zb (by omega:zBk es es2+j < es2.length))
       rw[frE _ _ hm.2.2]
       refine⟨by omega,by decide,by omega,fun _=>⟨⟨j+1,⟨zIw (by omega),by rw[zC (by omega)];omega⟩,by omega⟩,by rw[zC (by omega)];omega⟩⟩
      ·rw[hP,List.take_of_length_le (by simp;omega),List.map_drop];rfl
 ·refine hW.loopS _ _ _ [.sl 6 .dp (.int .i64)] (fun ys=>∃i:Nat,ys=[.int .i64 i]∧i≤zBk es es2) (fun ys=>es.length - (nth ys 0).I.toNat) ?_ ?_
  ·simp[-List.getD_eq_getElem?_getD,zf,zDd,zAQ]
   exact⟨0,rfl,by omega⟩
  ·rintro ys ⟨i,rfl,g1⟩
   refine hW.vc [(5,[],tkN [0,1,2,3,4,5,6,7,8,9,10,11,12,13,14,15,16,17,18,19,20,21] .done),(12,[10],tkN [0,1,2,5,6] (alN [3,4,7,8,9,10,11] .done))] _ _ ?_
   simp[-List.getD_eq_getElem?_getD,zf,zDd,zAQ,zEy]
   have eM:(if es2.length < es.length then (es2.length:Int) else es.length)=(min es.length es2.length:Nat):=by split<;>omega
   rw[eM]
   refine⟨by decide +kernel,fun _ _=>⟨fun a=>⟨a,by omega⟩,fun _=>⟨fun a=>⟨a,by omega⟩,fun _=>⟨fun a=>⟨a,by decide +kernel⟩,fun a c d=>?_,fun h=>?_⟩⟩⟩⟩
   ·have:=(zIa g1 (by omega) (by omega)).1 (zGL c d)
    rw[zC (by omega)]
    exact⟨⟨i+1,by omega,by omega⟩,by omega⟩
   ·obtain rfl:i=zBk es es2:=by
     by_cases a:i < es.length
     ·by_cases b:i < es2.length
      ·rw[(zIa g1 a b).2 (zGM (h (by omega)))]
      ·omega
     ·omega
    refine fun _=>⟨fun h3=>⟨by omega,by decide,by omega,fun _ _=>?_⟩,fun h3=>⟨by omega,fun _ _=>?_⟩⟩
    ·have hP:zBR ⟨t,v,es⟩ ⟨t2,v2,es2⟩=[.str (zVV (zBk es es2))]++(es2.drop (zBk es es2)).map fun e=>.str (zPj e):=by
      simp only[zBR,zIp,zJK,zLp,if_pos (And.intro h1 h2),if_pos h3];rfl
     refine hW.loopS _ _ _ [.sl 5 .dp (.list .str),.sl 74 .dp (.int .i64)] (fun ys=>∃j:Nat,ys=[.list ([.str (zVV (zBk es es2))]++((es2.drop (zBk es es2)).take j).map fun e=>.str (zPj e)),.int .i64 j]∧zBk es es2+j≤es2.length) (fun ys=>es2.length - (nth ys 1).I.toNat) ?_ ?_
     ·simp[-List.getD_eq_getElem?_getD,zf,zDd,zAQ]
      refine⟨0,?_,by omega⟩
      exact⟨⟨frC _,.inl rfl⟩,rfl⟩
     ·rintro ys ⟨j,rfl,g2⟩
      refine hW.vc [(5,[],tkN [0,1,2,3,4,5,6,7,8,9,10,11,12,13,14,15,16,17,18,19,20,21] .done),(12,[10],tkN [0,1,2,5,6] (alN [3,4,7,8,9,10,11] .done))] _ _ ?_
      simp[-List.getD_eq_getElem?_getD,zf,zDd,zAQ,zEy]
      have eT:List.take (es2.length - zBk es es2) (List.drop (zBk es es2) es2)=List.drop (zBk es es2) es2:=List.take_of_length_le (by simp)
      simp only[eT,zSA]
      refine⟨fun k3=>⟨k3,fun _ _ _=>⟨by decide +kernel,?_⟩⟩,fun k3=>?_⟩
      ·clear hW
       have hm:=p8 _ (zb (by omega:zBk es es2+j < es2.length))
       rw[frE _ _ hm.2.2]
       refine⟨by omega,by decide,by omega,fun _=>⟨⟨j+1,⟨zIw (by omega),by rw[zC (by omega)];omega⟩,by omega⟩,by rw[zC (by omega)];omega⟩⟩
      ·rw[hP,List.take_of_length_le (by simp;omega),List.map_drop];rfl
    ·have hP:zBR ⟨t,v,es⟩ ⟨t2,v2,es2⟩=([]:List PV)++(es2.drop (zBk es es2)).map fun e=>.str (zPj e):=by
      simp only[zBR,zIp,zJK,zLp,if_pos (And.intro h1 h2),if_neg (show ¬zBk es es2 < es.length by omega)];rfl
     refine hW.loopS _ _ _ [.sl 5 .dp (.list .str),.sl 74 .dp (.int .i64)] (fun ys=>∃j:Nat,ys=[.list (([]:List PV)++((es2.drop (zBk es es2)).take j).map fun e=>.str (zPj e)),.int .i64 j]∧zBk es es2+j≤es2.length) (fun ys=>es2.length - (nth ys 1).I.toNat) ?_ ?_
     ·simp[-List.getD_eq_getElem?_getD,zf,zDd,zAQ]
      refine⟨0,?_,by omega⟩
      exact⟨.inl rfl,rfl⟩
     ·rintro ys ⟨j,rfl,g2⟩
      refine hW.vc [(5,[],tkN [0,1,2,3,4,5,6,7,8,9,10,11,12,13,14,15,16,17,18,19,20,21] .done),(12,[10],tkN [0,1,2,5,6] (alN [3,4,7,8,9,10,11] .done))] _ _ ?_
      simp[-List.getD_eq_getElem?_getD,zf,zDd,zAQ,zEy]
      have eT:List.take (es2.length - zBk es es2) (List.drop (zBk es es2) es2)=List.drop (zBk es es2) es2:=List.take_of_length_le (by simp)
      simp only[eT,zSA]
      refine⟨fun k3=>⟨k3,fun _ _ _=>⟨by decide +kernel,?_⟩⟩,fun k3=>?_⟩
      ·clear hW
       have hm:=p8 _ (zb (by omega:zBk es es2+j < es2.length))
       rw[frE _ _ hm.2.2]
       refine⟨by omega,by decide,by omega,fun _=>⟨⟨j+1,⟨zIw (by omega),by rw[zC (by omega)];omega⟩,by omega⟩,by rw[zC (by omega)];omega⟩⟩
      ·rw[hP,List.take_of_length_le (by simp;omega),List.map_drop];rfl
def zAT:zJ:=zf
theorem zOi:zh Tryz.prog 140 zAT:=by
 refine zP [0,1,2,3,4,5,6,7] [.tmp 4] (zA (cs:=[]) zIK (zA (cs:=[]) zTV (zA (cs:=[]) zUp (zD (zB []))))) mixed Tryz.func140 rfl (by decide) rfl (by decide) rfl ?_
 intro ps hT hpre W hW
 simp only[zAT,TyA,Ty,Tys] at hT hpre
 simp only[zf,TyA,Ty,Tys] at hT hpre
 obtain⟨_,_,rfl,⟨_,rfl,_,_,rfl,⟨t,rfl,ht⟩,_,_,rfl,⟨v,rfl,hv⟩,_,_,rfl,⟨es,rfl,hes,tes⟩,rfl⟩,_,_,rfl,⟨_,rfl,_,_,rfl,⟨t2,rfl,ht2⟩,_,_,rfl,⟨v2,rfl,hv2⟩,_,_,rfl,⟨es2,rfl,hes2,tes2⟩,rfl⟩,rfl⟩:=hT
 simp only[zE,zF,zBE,zAA,yp,zEy,ST.wk] at hpre
 refine hW.vc [(10,[20],tkN [0,1,2,3,4,5,6,10,11,12,13,14,15] (alN [7,8] (tkN [9] (alN [16,17] (tkN [18] (alN [19,20,21] .done))))))] _ _ ?_
 simp[-List.getD_eq_getElem?_getD,zAT,zB3,zBX,zA7,zf,zf,zEy,zCW]
 have hr1:∀r:List PV,zIp ⟨t,v,es⟩ ⟨t2,v2,es2⟩=r→zBR ⟨t,v,es⟩ ⟨t2,v2,es2⟩=r++(zJK ⟨t,v,es⟩ ⟨t2,v2,es2⟩++zLp ⟨t,v,es⟩ ⟨t2,v2,es2⟩):=fun r h=>by rw[zBR,h]
 obtain⟨⟨p1,p2,p3,p4⟩,p5,p6,p7,p8⟩:=hpre
 have cl:=zQf es es2
 have hc1:=zK2 (zBk es es2:Int)
 refine⟨fun h1=>⟨by decide,by omega,by decide,zXj _ _,fun _=>⟨fun h3=>⟨by omega,by decide,hc1,?_⟩,fun h3=>?_⟩⟩,fun h1 h2=>fun _=>⟨fun h3=>⟨by omega,by decide,hc1,?_⟩,fun h3=>?_⟩⟩
 ·have hP:zBR ⟨t,v,es⟩ ⟨t2,v2,es2⟩=[.str (zVU t2 v2),.str (zVV (zBk es es2))]++(es2.drop (zBk es es2)).map fun e=>.str (zPj e):=by
   simp only[zBR,zIp,zJK,zLp,if_neg (zLc h1),if_pos h3];rfl
  refine hW.loopS _ _ _ [.sl 5 .dp (.list .str),.sl 7 .dp (.int .i64)] (fun ys=>∃i:Nat,ys=[.list ([.str (zVU t2 v2),.str (zVV (zBk es es2))]++((es2.drop (zBk es es2)).take i).map fun e=>.str (zPj e)),.int .i64 (zBk es es2+i:Nat)]∧zBk es es2+i≤es2.length) (fun ys=>es2.length - (nth ys 1).I.toNat) ?_ ?_
  ·simp[-List.getD_eq_getElem?_getD,zAT,zB3,zBX,zA7,zf]
   refine⟨0,?_,by omega⟩
   first
    | exact⟨⟨rfl,rfl,.inl rfl⟩,by omega⟩
    | exact⟨⟨rfl,.inl rfl⟩,by omega⟩
    | exact⟨.inl rfl,by omega⟩
  ·rintro ys ⟨i,rfl,g1⟩
   refine hW.vc [(10,[20],tkN [0,1,2,3,4,5,6,10,11,12,13,14,15] (alN [7,8] (tkN [9] (alN [16,17] (tkN [18] (alN [19,20,21] .done))))))] _ _ ?_
   simp[-List.getD_eq_getElem?_getD,zAT,zB3,zBX,zA7,zf,zf,zEy,zCW]
   refine fun _=>⟨fun k3=>⟨by decide +kernel,?_⟩,fun k3=>?_⟩
   ·clear hW
    have eN:((zBk es es2:Int)+i).toNat=zBk es es2+i:=by omega
    rw[eN]
    have hm:=p8 _ (zb (by omega:zBk es es2+i < es2.length))
    refine⟨by omega,by omega,fun _=>⟨by omega,by omega,fun _=>⟨by omega,by decide,⟨zK2 _,by omega⟩,by omega,fun _=>⟨⟨i+1,⟨zIw (by omega),by rw[zC (by omega)];omega⟩,by omega⟩,by rw[zC (by omega)];omega⟩⟩⟩⟩
   ·rw[hP,List.take_of_length_le (by simp;omega),List.map_drop];rfl
 ·have hP:zBR ⟨t,v,es⟩ ⟨t2,v2,es2⟩=[.str (zVU t2 v2)]++(es2.drop (zBk es es2)).map fun e=>.str (zPj e):=by
   simp only[zBR,zIp,zJK,zLp,if_neg (zLc h1),if_neg (show ¬zBk es es2 < es.length by omega)];rfl
  refine hW.loopS _ _ _ [.sl 5 .dp (.list .str),.sl 7 .dp (.int .i64)] (fun ys=>∃i:Nat,ys=[.list ([.str (zVU t2 v2)]++((es2.drop (zBk es es2)).take i).map fun e=>.str (zPj e)),.int .i64 (zBk es es2+i:Nat)]∧zBk es es2+i≤es2.length) (fun ys=>es2.length - (nth ys 1).I.toNat) ?_ ?_
  ·simp[-List.getD_eq_getElem?_getD,zAT,zB3,zBX,zA7,zf]
   refine⟨0,?_,by omega⟩
   first
    | exact⟨⟨rfl,rfl,.inl rfl⟩,by omega⟩
    | exact⟨⟨rfl,.inl rfl⟩,by omega⟩
    | exact⟨.inl rfl,by omega⟩
  ·rintro ys ⟨i,rfl,g1⟩
   refine hW.vc [(10,[20],tkN [0,1,2,3,4,5,6,10,11,12,13,14,15] (alN [7,8] (tkN [9] (alN [16,17] (tkN [18] (alN [19,20,21] .done))))))] _ _ ?_
   simp[-List.getD_eq_getElem?_getD,zAT,zB3,zBX,zA7,zf,zf,zEy,zCW]
   refine fun _=>⟨fun k3=>⟨by decide +kernel,?_⟩,fun k3=>?_⟩
   ·clear hW
    have eN:((zBk es es2:Int)+i).toNat=zBk es es2+i:=by omega
    rw[eN]
    have hm:=p8 _ (zb (by omega:zBk es es2+i < es2.length))
    refine⟨by omega,by omega,fun _=>⟨by omega,by omega,fun _=>⟨by omega,by decide,⟨zK2 _,by omega⟩,by omega,fun _=>⟨⟨i+1,⟨zIw (by omega),by rw[zC (by omega)];omega⟩,by omega⟩,by rw[zC (by omega)];omega⟩⟩⟩⟩
   ·rw[hP,List.take_of_length_le (by simp;omega),List.map_drop];rfl
 ·have hP:zBR ⟨t,v,es⟩ ⟨t2,v2,es2⟩=[.str (zVV (zBk es es2))]++(es2.drop (zBk es es2)).map fun e=>.str (zPj e):=by
   simp only[zBR,zIp,zJK,zLp,if_pos (And.intro h1 h2),if_pos h3];rfl
  refine hW.loopS _ _ _ [.sl 5 .dp (.list .str),.sl 7 .dp (.int .i64)] (fun ys=>∃i:Nat,ys=[.list ([.str (zVV (zBk es es2))]++((es2.drop (zBk es es2)).take i).map fun e=>.str (zPj e)),.int .i64 (zBk es es2+i:Nat)]∧zBk es es2+i≤es2.length) (fun ys=>es2.length - (nth ys 1).I.toNat) ?_ ?_
  ·simp[-List.getD_eq_getElem?_getD,zAT,zB3,zBX,zA7,zf]
   refine⟨0,?_,by omega⟩
   first
    | exact⟨⟨rfl,rfl,.inl rfl⟩,by omega⟩
    | exact⟨⟨rfl,.inl rfl⟩,by omega⟩
    | exact⟨.inl rfl,by omega⟩
  ·rintro ys ⟨i,rfl,g1⟩
   refine hW.vc [(10,[20],tkN [0,1,2,3,4,5,6,10,11,12,13,14,15] (alN [7,8] (tkN [9] (alN [16,17] (tkN [18] (alN [19,20,21] .done))))))] _ _ ?_
   simp[-List.getD_eq_getElem?_getD,zAT,zB3,zBX,zA7,zf,zf,zEy,zCW]
   refine fun _=>⟨fun k3=>⟨by decide +kernel,?_⟩,fun k3=>?_⟩
   ·clear hW
    have eN:((zBk es es2:Int)+i).toNat=zBk es es2+i:=by omega
    rw[eN]
    have hm:=p8 _ (zb (by omega:zBk es es2+i < es2.length))
    refine⟨by omega,by omega,fun _=>⟨by omega,by omega,fun _=>⟨by omega,by decide,⟨zK2 _,by omega⟩,by omega,fun _=>⟨⟨i+1,⟨zIw (by omega),by rw[zC (by omega)];omega⟩,by omega⟩,by rw[zC (by omega)];omega⟩⟩⟩⟩
   ·rw[hP,List.take_of_length_le (by simp;omega),List.map_drop];rfl
 ·have hP:zBR ⟨t,v,es⟩ ⟨t2,v2,es2⟩=([]:List PV)++(es2.drop (zBk es es2)).map fun e=>.str (zPj e):=by
   simp only[zBR,zIp,zJK,zLp,if_pos (And.intro h1 h2),if_neg (show ¬zBk es es2 < es.length by omega)];rfl
  refine hW.loopS _ _ _ [.sl 5 .dp (.list .str),.sl 7 .dp (.int .i64)] (fun ys=>∃i:Nat,ys=[.list (([]:List PV)++((es2.drop (zBk es es2)).take i).map fun e=>.str (zPj e)),.int .i64 (zBk es es2+i:Nat)]∧zBk es es2+i≤es2.length) (fun ys=>es2.length - (nth ys 1).I.toNat) ?_ ?_
  ·simp[-List.getD_eq_getElem?_getD,zAT,zB3,zBX,zA7,zf]
   refine⟨0,?_,by omega⟩
   first
    | exact⟨⟨rfl,rfl,.inl rfl⟩,by omega⟩
    | exact⟨⟨rfl,.inl rfl⟩,by omega⟩
    | exact⟨.inl rfl,by omega⟩
  ·rintro ys ⟨i,rfl,g1⟩
   refine hW.vc [(10,[20],tkN [0,1,2,3,4,5,6,10,11,12,13,14,15] (alN [7,8] (tkN [9] (alN [16,17] (tkN [18] (alN [19,20,21] .done))))))] _ _ ?_
   simp[-List.getD_eq_getElem?_getD,zAT,zB3,zBX,zA7,zf,zf,zEy,zCW]
   refine fun _=>⟨fun k3=>⟨by decide +kernel,?_⟩,fun k3=>?_⟩
   ·clear hW
    have eN:((zBk es es2:Int)+i).toNat=zBk es es2+i:=by omega
    rw[eN]
    have hm:=p8 _ (zb (by omega:zBk es es2+i < es2.length))
    refine⟨by omega,by omega,fun _=>⟨by omega,by omega,fun _=>⟨by omega,by decide,⟨zK2 _,by omega⟩,by omega,fun _=>⟨⟨i+1,⟨zIw (by omega),by rw[zC (by omega)];omega⟩,by omega⟩,by rw[zC (by omega)];omega⟩⟩⟩⟩
   ·rw[hP,List.take_of_length_le (by simp;omega),List.map_drop];rfl
def wrO(s:PV)(es:List PV):List UInt8 × Bool:=zIt (nth s.A 0).S es
def zAI:zJ:=⟨[(.rd,.agg [.str,.int .i64]),(.rd,.list .str)],[.agg [.str,.int .i64],.bool],true,fun ps=>(nth (nth ps 0).A 0).S.length≤900000∧∀e∈(nth ps 1).L,e.S.length≤900000,
 fun ps=>[.agg [.str (cond (wrO (nth ps 0) (nth ps 1).L).2 (wrO (nth ps 0) (nth ps 1).L).1 []),.int .i64 (cond (wrO (nth ps 0) (nth ps 1).L).2 (nth (nth ps 0).A 1).I 0)],.bool (wrO (nth ps 0) (nth ps 1).L).2],fun _=>[]⟩
theorem zTO:zh Tryz.prog 149 zAI:=by
 refine zIU [0,1,2,4,5,6,8,12,13,14] [.cell 4 73,.tmp 5] _ bG (zA (cs:=[]) zYC (zD (zB []))) mixed Tryz.func149 rfl (by decide) rfl (by decide) rfl ?_
 intro ps hT hpre W hW hB
 simp only[zAI,TyA,Ty,Tys] at hT hpre
 obtain⟨_,_,rfl,⟨_,rfl,_,_,rfl,⟨b,rfl,hb⟩,_,_,rfl,⟨sure,rfl,hsure⟩,rfl⟩,_,_,rfl,⟨es,rfl,hes,tes⟩,rfl⟩:=hT
 simp only[zE,zF,zBE,zAA,zEW] at hpre
 refine hW.vc [(10,[4],tkN [1,2] (alS 0 (tkN [3] (alN [4,5] .done))))] _ _ ?_
 simp[-List.getD_eq_getElem?_getD,zAI,zCg,wrO]
 refine hB.bld _ _ _ _ _ ?_
 simp[-List.getD_eq_getElem?_getD,zAI,zCg,zU8,zLN,zV3,zV4,zU6,zNk]
 refine hW.vc [(10,[4],tkN [1,2] (alS 0 (tkN [3] (alN [4,5] .done))))] _ _ ?_
 simp[-List.getD_eq_getElem?_getD,zAI,zCg,zMB]
 refine hB.bld _ _ _ _ _ ?_
 simp[-List.getD_eq_getElem?_getD,zAI,zCg,zU8,zLN,zV3,zV4,zU6,zNk]
 refine⟨by omega,?_⟩
 refine hW.vc [(10,[4],tkN [1,2] (alS 0 (tkN [3] (alN [4,5] .done))))] _ _ ?_
 simp[-List.getD_eq_getElem?_getD,zAI,zCg,zMB]
 refine fun _=>hW.loopS _ _ _ [.bl 6,.sl 14 .dp (.int .i64)] (fun ys=>∃(d:List UInt8) (i:Nat),ys=[.str d,.int .i64 i]∧i≤es.length∧d.length≤900000∧zIt b es=zIt d (es.drop i)) (fun ys=>es.length - (nth ys 1).I.toNat) ?_ ?_
 ·simp[-List.getD_eq_getElem?_getD,zAI,zCg,zMB]
  exact⟨b,0,⟨rfl,rfl⟩,by omega,by omega,by simp⟩
 ·rintro ys ⟨d,i,rfl,g1,g2,g3⟩
  refine hW.vc [] _ _ ?_
  simp[-List.getD_eq_getElem?_getD,zAI,zCg,zMB]
  refine⟨fun k3=>?_,fun k3=>?_⟩
  ·refine⟨k3,fun _=>?_⟩
   have hs:=hpre.2 _ (zb k3)
   have hl:=zHb (nth es i).S
   refine⟨by omega,?_⟩
   refine hB.bld _ _ _ _ _ ?_
   simp[-List.getD_eq_getElem?_getD,zAI,zCg,zU8,zLN,zV3,zV4,zU6,zNk]
   refine⟨by omega,?_⟩
   refine hW.vc [] _ _ ?_
   simp[-List.getD_eq_getElem?_getD,zAI,zCg,zMB]
   refine hB.bld _ _ _ _ _ ?_
   simp[-List.getD_eq_getElem?_getD,zAI,zCg,zU8,zLN,zV3,zV4,zU6,zNk]
   refine hW.vc [] _ _ ?_
   simp[-List.getD_eq_getElem?_getD,zAI,zCg,zMB]
   refine⟨fun q=>?_,fun q=>?_⟩
   ·have e:zIt b es=(d++zMn (nth es i).S,false):=by rw[g3,zG k3,zIt,if_pos (by rw[List.length_append];omega)]
    show((cond (zIt b es).2 (zIt b es).1 []=[]∧(0:Int)=cond (zIt b es).2 sure 0)∧(zIt b es).2=false)
    rw[e];exact⟨⟨rfl,rfl⟩,rfl⟩
   ·have e:zIt b es=zIt (d++zMn (nth es i).S) (es.drop (i+1)):=by rw[g3,zG k3,zIt,if_neg (by rw[List.length_append];omega)]
    rw[zC (by omega)]
    exact⟨⟨_,i+1,⟨rfl,by omega⟩,by omega,by rw[List.length_append];omega,e⟩,by omega⟩
  ·have e:zIt b es=(d,true):=by rw[g3,List.drop_eq_nil_of_le k3];rfl
   refine hW.draw _ _ _ _ fun l hl=>?_
   replace hl:l∈([[0,1,2,3,4,5],[1,0,2,3,4,5],[1,2,0,3,4,5]]:List (List Nat)):=hl
   simp only[List.mem_cons,List.not_mem_nil,or_false] at hl
   rcases hl with rfl | rfl | rfl
   all_goals
    simp only[zKL]
    refine hW.vc [] _ _ ?_
    simp[-List.getD_eq_getElem?_getD,zAI,zCg,zMB]
    refine hB.bld _ _ _ _ _ ?_
    simp[-List.getD_eq_getElem?_getD,zAI,zCg,zU8,zLN,zV3,zV4,zU6,zNk]
    refine⟨by omega,?_⟩
    refine hW.vc [] _ _ ?_
    simp[-List.getD_eq_getElem?_getD,zAI,zCg,zMB]
    show((d=cond (zIt b es).2 (zIt b es).1 []∧sure=cond (zIt b es).2 sure 0)∧(zIt b es).2=true)
    rw[e];exact⟨⟨rfl,rfl⟩,rfl⟩
def zCU:zJ:=⟨[(.rd,.agg [.str,.int .i64]),(.rd,.list .str)],[.agg [.str,.int .i64],.int .i64],true,fun ps=>(nth (nth ps 0).A 0).S.length≤900000∧∀e∈(nth ps 1).L,e.S.length≤900000,
 fun ps=>[.agg [.str (wrO (nth ps 0) (nth ps 1).L).1,.int .i64 (nth (nth ps 0).A 1).I],.int .i64 (cond (wrO (nth ps 0) (nth ps 1).L).2 0 7)],fun _=>[]⟩
theorem zRZ:zh Tryz.prog 139 zCU:=by
 refine zP [0,1,2,4,5,6] [.cell 4 73,.tmp 5] (zA (cs:=[]) zWb (zD (zB []))) mixed Tryz.func139 rfl (by decide) rfl (by decide) rfl ?_
 intro ps hT hpre W hW
 simp only[zCU,TyA,Ty,Tys] at hT hpre
 obtain⟨_,_,rfl,⟨_,rfl,_,_,rfl,⟨b,rfl,hb⟩,_,_,rfl,⟨sure,rfl,hsure⟩,rfl⟩,_,_,rfl,⟨es,rfl,hes,tes⟩,rfl⟩:=hT
 simp only[zE,zF,zBE,zAA,zEW] at hpre
 refine hW.vc [(4,[10],tkN [0,1,2,3,4,5] (alS 6 (tkN [7,8,9] (alS 10 .done))))] _ _ ?_
 simp[-List.getD_eq_getElem?_getD,zCU,zHo,wrO]
 refine hW.loopS _ _ _ [.bx 2 [.str,.int .i64],.sl 6 .dp (.int .i64)] (fun ys=>∃(d:List UInt8) (i:Nat),ys=[.agg [.str d,.int .i64 sure],.int .i64 i]∧i≤es.length∧d.length≤900000∧zIt b es=zIt d (es.drop i)) (fun ys=>es.length - (nth ys 1).I.toNat) ?_ ?_
 ·simp[-List.getD_eq_getElem?_getD,zCU,zHo]
  exact⟨b,0,⟨rfl,rfl⟩,by omega,by omega,by simp⟩
 ·rintro ys ⟨d,i,rfl,g1,g2,g3⟩
  refine hW.vc [(4,[10],tkN [0,1,2,3,4,5] (alS 6 (tkN [7,8,9] (alS 10 .done))))] _ _ ?_
  simp[-List.getD_eq_getElem?_getD,zCU,zHo]
  refine fun _=>⟨fun k3=>⟨by decide +kernel,?_⟩,fun k3=>?_⟩
  ·clear hW
   have hs:=hpre.2 _ (zb k3)
   rw[zCW]
   have hl:=zHb (nth es i).S
   refine⟨k3,fun _=>⟨by omega,by omega,fun _=>⟨fun q=>?_,fun q=>?_⟩⟩⟩
   ·have e:zIt b es=(d++zMn (nth es i).S,false):=by rw[g3,zG k3,zIt,if_pos (by rw[List.length_append];omega)]
    show d++_=(zIt b es).1∧(7:Int)=cond (zIt b es).2 0 7
    rw[e];exact⟨rfl,rfl⟩
   ·have e:zIt b es=zIt (d++zMn (nth es i).S) (es.drop (i+1)):=by rw[g3,zG k3,zIt,if_neg (by rw[List.length_append];omega)]
    rw[zC (by omega)]
    exact⟨⟨_,i+1,⟨rfl,by omega⟩,by omega,by rw[List.length_append];omega,e⟩,by omega⟩
  ·show d=(zIt b es).1∧(0:Int)=cond (zIt b es).2 0 7
   rw[g3,List.drop_eq_nil_of_le k3]
   exact⟨rfl,rfl⟩
theorem zew{k l:Int}(h:0≤l):0≤mxI 0 (mnI k l)∧mxI 0 (mnI k l)≤l:=by
 unfold mxI mnI;split<;>split<;>omega
def zEu:zJ:=⟨[(.rd,.agg [.str,.int .i64]),(.rd,.int .i64)],[.agg [.str,.int .i64]],true,fun ps=>zDz (nth (nth ps 0).A 0).S (nth (nth ps 0).A 1).I=true,fun ps=>[.agg [.str ((nth (nth ps 0).A 0).S.take (zU2 (nth (nth ps 0).A 0).S.length (nth (nth ps 0).A 1).I (nth ps 1).I)),.int .i64 (zU2 (nth (nth ps 0).A 0).S.length (nth (nth ps 0).A 1).I (nth ps 1).I)]],fun _=>[]⟩
theorem zYE:zh Tryz.prog 191 zEu:=by
 refine zP [0,1,2,4,5] [.cell 4 73] (zD (zB [])) mixed Tryz.func191 rfl (by decide) rfl (by decide) rfl ?_
 intro ps hT hpre W hW
 simp only[zEu,TyA,Ty,Tys] at hT hpre
 obtain⟨_,_,rfl,⟨_,rfl,_,_,rfl,⟨b,rfl,hb⟩,_,_,rfl,⟨sure,rfl,hsure⟩,rfl⟩,_,_,rfl,⟨keep,rfl,hkeep⟩,rfl⟩:=hT
 simp only[zE,zF,zBE,yp,zEW] at hpre
 refine hW.vc [] _ _ ?_
 simp[-List.getD_eq_getElem?_getD,zEu]
 intro _
 simp only[zDz,Bool.and_eq_true,zk,leB,decide_eq_true_eq] at hpre
 have w1:IntKind.i64.wrap ((b.length:Int) - sure)=(b.length:Int) - sure:=zC (by omega)
 rw[w1]
 have e:(if 0 < (if (b.length:Int) - sure < keep then (b.length:Int) - sure else keep) then (if (b.length:Int) - sure < keep then (b.length:Int) - sure else keep) else 0)=mxI 0 (mnI keep ((b.length:Int) - sure)):=by
  unfold mxI mnI;rfl
 rw[e]
 have q:=zew (k:=keep) (l:=(b.length:Int) - sure) (by omega)
 rw[zC (by omega)]
 unfold zU2
 exact⟨by omega,by omega,by omega⟩
def zLl:zJ:=zEu
theorem zWZ:zh Tryz.prog 141 zLl:=by
 refine zP [0,1,2,4] [.cell 4 73] (zD (zB [])) mixed Tryz.func141 rfl (by decide) rfl (by decide) rfl ?_
 intro ps hT hpre W hW
 simp only[zLl,TyA,Ty,Tys] at hT hpre
 simp only[zEu,TyA,Ty,Tys] at hT hpre
 obtain⟨_,_,rfl,⟨_,rfl,_,_,rfl,⟨b,rfl,hb⟩,_,_,rfl,⟨sure,rfl,hsure⟩,rfl⟩,_,_,rfl,⟨keep,rfl,hkeep⟩,rfl⟩:=hT
 simp only[zE,zF,zBE,yp,zEW] at hpre
 refine hW.vc [] _ _ ?_
 simp[-List.getD_eq_getElem?_getD,zLl,zEu,zEu]
 intro _
 simp only[zDz,Bool.and_eq_true,zk,leB,decide_eq_true_eq] at hpre
 have w1:IntKind.i64.wrap ((b.length:Int) - sure)=(b.length:Int) - sure:=zC (by omega)
 rw[w1]
 have e:(if (b.length:Int) - sure < (if 0 < keep then keep else 0) then (b.length:Int) - sure else (if 0 < keep then keep else 0))=mxI 0 (mnI keep ((b.length:Int) - sure)):=by
  unfold mxI mnI;(repeat' split)<;>omega
 rw[e]
 have q:=zew (k:=keep) (l:=(b.length:Int) - sure) (by omega)
 rw[zC (by omega)]
 unfold zU2
 exact⟨by omega,fun _=>⟨by omega,by omega⟩⟩
end
end Go.Proofs.YthogljppoiekaaaGreat
