/-
  Part 9: contracts of functions, and the laws by which they are proved.
  Conditions: none.
-/
import Derived.Test.YthogljppoiekaaaGreatW6
import Derived.Test.YthogljppoiekaaaGreatW7
import Derived.Test.YthogljppoiekaaaGreatW8
set_option linter.unusedVariables false
set_option linter.unusedSimpArgs false
set_option linter.unusedSectionVars false
set_option maxRecDepth 100000
namespace Go.Proofs.YthogljppoiekaaaGreat
section
variable [zS]
theorem zMB:lk zAo 197=none:=rfl
def zAQ:zJ:=⟨[(.rd,.list (.int .i64))],[.str],true,fun ps=>0 < (nth ps 0).L.length∧(nth ps 0).L.length≤1048576∧∀e∈(nth ps 0).L,-1≤e.I∧e.I≤1073741824,fun ps=>[.str (zD4 (nth ps 0).L)],fun _=>[]⟩
theorem zUm:zh Tryz.prog 190 zAQ:=by
 refine zIU [0,2,3,5,6,7,8] [.tmp 2] _ bG (zA (cs:=[]) zOC (zD (zB []))) mixed Tryz.func190 rfl (by decide) rfl (by decide) rfl ?_
 intro ps hT hpre W hW hB
 simp only[zAQ,TyA,Ty,Tys] at hT hpre
 obtain⟨_,_,rfl,⟨es,rfl,hes,tes⟩,rfl⟩:=hT
 simp only[zE,zAA] at hpre
 obtain⟨hp0,hp1,hp2⟩:=hpre
 refine hW.vc [] _ _ ?_
 simp[-List.getD_eq_getElem?_getD,zAQ,zAO]
 refine hB.bld _ _ _ _ _ ?_
 simp[-List.getD_eq_getElem?_getD,zAQ,zAO,zU8,zLN,zV3,zV4,zU6,zNk]
 refine hW.vc [] _ _ ?_
 simp[-List.getD_eq_getElem?_getD,zAQ,zAO]
 refine fun h0=>hW.loopS _ _ _ [.bl 3,.sl 8 .dp (.int .i64)] (fun ys=>∃i:Nat,ys=[.str (zD4 (es.take i)),.int .i64 i]∧i≤es.length) (fun ys=>es.length - (nth ys 1).I.toNat) ?_ ?_
 ·simp[-List.getD_eq_getElem?_getD,zAQ,zAO]
  exact⟨0,⟨by simp[zD4],rfl⟩,by omega⟩
 ·rintro ys ⟨i,rfl,h1⟩
  refine hW.vc [] _ _ ?_
  simp[-List.getD_eq_getElem?_getD,zAQ,zAO]
  refine⟨fun h2=>⟨h2,fun _=>?_⟩,fun h2=>?_⟩
  ·have h3:=hp2 _ (zb h2)
   rw[zC (n:=(nth es i).I+1) (by omega)]
   refine⟨by omega,hB.bld _ _ _ _ _ ?_⟩
   simp[-List.getD_eq_getElem?_getD,zAQ,zAO,zU8,zLN,zV3,zV4,zU6,zNk]
   refine⟨by rw[zCF,zFB,List.length_take];omega,?_⟩
   refine hW.vc [] _ _ ?_
   simp[-List.getD_eq_getElem?_getD,zAQ,zAO]
   rw[zC (n:=(i:Int)+1) (by omega)]
   exact⟨⟨i+1,⟨by rw[zRV h2],by omega⟩,by omega⟩,by omega⟩
  ·rw[List.take_of_length_le h2]
   refine hB.bld _ _ _ _ _ ?_
   simp[-List.getD_eq_getElem?_getD,zAQ,zAO,zU8,zLN,zV3,zV4,zU6,zNk]
   have h4:=zCF es
   refine⟨by omega,?_⟩
   refine hW.vc [] _ _ ?_
   simp[-List.getD_eq_getElem?_getD,zAQ,zAO]
def zOs(s:List UInt8):Bool:=decide (s.length > 20000)
def zG2:zJ:=⟨[(.rd,.str)],[.bool],true,fun _=>True,fun ps=>[.bool (zOs (nth ps 0).S)],fun _=>[]⟩
theorem zUs:zh Tryz.prog 236 zG2:=by
 refine zP [0,2] [.tmp 2] (zD (zB [])) mixed Tryz.func236 rfl (by decide) rfl (by decide) rfl ?_
 intro ps hT hpre W hW
 simp only[zG2,TyA,Ty,Tys] at hT hpre
 obtain⟨_,_,rfl,⟨l,rfl,hl⟩,rfl⟩:=hT
 refine hW.vc [] _ _ ?_
 simp[-List.getD_eq_getElem?_getD,zG2]
 exact fun _=>by unfold zOs;congr 1;simp only[eq_iff_iff];omega
def zBu:zJ:=⟨[(.rd,.list .str),(.rd,.fn 236 [])],[.int .i64],true,fun ps=>True,fun ps=>[.int .i64 (zBA (fun e=>zOs e.S) 0 (nth ps 0).L)],fun _=>[]⟩
theorem zLH:zh Tryz.prog 167 zBu:=by
 refine zP [0,1,4,5,7,8] [.tmp 4] (zA (cs:=[]) zUs (zD (zB []))) mixed Tryz.func167 rfl (by decide) rfl (by decide) rfl ?_
 intro ps hT hpre W hW
 simp only[zBu,TyA,Ty,Tys] at hT hpre
 obtain⟨_,_,rfl,⟨es,rfl,he,hes⟩,_,_,rfl,⟨_,rfl,rfl⟩,rfl⟩:=hT
 refine hW.vc [] _ _ ?_
 simp[-List.getD_eq_getElem?_getD,zBu,zG2]
 intro h1
 refine hW.loopS _ _ _ [.sl 8 .dp (.int .i64)] (fun ys=>∃i:Nat,ys=[.int .i64 i]∧i≤es.length∧zBA (fun e=>zOs e.S) 0 es=zBA (fun e=>zOs e.S) i (es.drop i)) (fun ys=>es.length - (nth ys 0).I.toNat) ?_ ?_
 ·simp[-List.getD_eq_getElem?_getD,zBu,zG2]
  exact⟨0,rfl,by simp,by simp⟩
 ·rintro ys ⟨i,rfl,h2,h3⟩
  refine hW.vc [] _ _ ?_
  simp[-List.getD_eq_getElem?_getD,zBu,zG2]
  refine⟨fun h4=>⟨h4,fun _=>⟨fun h5=>?_,fun h5=>?_⟩⟩,fun h4=>?_⟩
  ·rw[h3,zG h4];simp[zBA,h5]
  ·rw[zC (by omega)]
   refine⟨⟨i+1,by omega,by omega,?_⟩,by omega⟩
   rw[h3,zG h4];simp[zBA,h5]
  ·rw[h3,List.drop_eq_nil_of_le h4];rfl
def zy:zJ:=⟨[(.rd,.list .str),(.rd,.fn 236 [])],[.bool],true,fun ps=>True,fun ps=>[.bool ((nth ps 0).L.any (fun e=>zOs e.S))],fun _=>[]⟩
theorem zJm:zh Tryz.prog 122 zy:=by
 refine zP [0,1,4] [.tmp 4] (zA (cs:=[236]) zLH (zD (zB []))) mixed Tryz.func122 rfl (by decide) rfl (by decide) rfl ?_
 intro ps hT hpre W hW
 simp only[zy,TyA,Ty,Tys] at hT hpre
 obtain⟨_,_,rfl,⟨es,rfl,he,hes⟩,_,_,rfl,⟨_,rfl,rfl⟩,rfl⟩:=hT
 refine hW.vc [] _ _ ?_
 simp[-List.getD_eq_getElem?_getD,zy,zBu]
 exact zDA (fun e=>zOs e.S) es 0
def zHS(es:List PV):List UInt8 × Int:=if es.length > 60 then ([],6) else if es.any (fun e=>zOs e.S)=true then ([],4) else if (zCM es).length > 65536 then ([],7) else (zCM es,0)
def zB7:zJ:=⟨[(.rd,.list .str)],[.str,.int .i64],true,fun _=>True,fun ps=>[.str (zHS (nth ps 0).L).1,.int .i64 (zHS (nth ps 0).L).2],fun _=>[]⟩
theorem zWc:zh Tryz.prog 225 zB7:=by
 refine zIU [0,2,3,4,6,16,17,18] [.tmp 2,.tmp 3] _ bG (zA (cs:=[236]) zJm (zA (cs:=[]) zOC (zD (zB [])))) mixed Tryz.func225 rfl (by decide) rfl (by decide) rfl ?_
 intro ps hT hpre W hW hB
 simp only[zB7,TyA,Ty,Tys] at hT hpre
 obtain⟨_,_,rfl,⟨es,rfl,hes,tes⟩,rfl⟩:=hT
 refine hW.vc [] _ _ ?_
 simp[-List.getD_eq_getElem?_getD,zB7,zAO,zy,zMB]
 refine fun h0=>⟨fun h1=>?_,fun h1=>⟨fun x hx hx2=>?_,fun h2=>?_⟩⟩
 ·rw[zHS,if_pos (by omega)];simp
 ·rw[zHS,if_neg (by omega),if_pos (by simp only[List.any_eq_true];exact⟨x,hx,hx2⟩)];simp
 ·refine hB.bld _ _ _ _ _ ?_
  simp[-List.getD_eq_getElem?_getD,zB7,zAO,zy,zU8,zLN,zV3,zV4,zU6,zNk]
  refine hW.vc [] _ _ ?_
  simp[-List.getD_eq_getElem?_getD,zB7,zAO,zy,zMB]
  refine fun _=>hB.bld _ _ _ _ _ ?_
  simp[-List.getD_eq_getElem?_getD,zB7,zAO,zy,zU8,zLN,zV3,zV4,zU6,zNk]
  refine hW.vc [] _ _ ?_
  simp[-List.getD_eq_getElem?_getD,zB7,zAO,zy,zMB]
  refine fun _=>hW.loopS _ _ _ [.bl 4,.sl 18 .dp (.int .i64)] (fun ys=>∃i:Nat,ys=[.str (zGl es.length :: (es.take i).flatMap fun e=>nB e.S.length 2++e.S),.int .i64 i]∧i≤es.length) (fun ys=>es.length - (nth ys 1).I.toNat) ?_ ?_
  ·simp[-List.getD_eq_getElem?_getD,zB7,zAO,zy]
   exact⟨0,⟨by simp[zLV],rfl⟩,by omega⟩
  ·rintro ys ⟨i,rfl,h3⟩
   have hlen:((es.take i).flatMap fun e=>nB e.S.length 2++e.S).length≤60*20002:=by
    refine Nat.le_trans (zSU (k:=20000) fun e he=>?_) (Nat.mul_le_mul_right _ (by rw[List.length_take];omega))
    have:=h2 e (List.mem_of_mem_take he)
    simpa[zOs] using this
   refine hW.vc [] _ _ ?_
   simp[-List.getD_eq_getElem?_getD,zB7,zAO,zy,zMB]
   refine⟨fun h4=>⟨h4,fun _=>?_⟩,fun h4=>?_⟩
   ·have h5:(nth es i).S.length≤20000:=by
     have:=h2 _ (zb h4)
     simpa[zOs] using this
    refine fun _=>⟨by rw[zFB];omega,hB.bld _ _ _ _ _ ?_⟩
    simp[-List.getD_eq_getElem?_getD,zB7,zAO,zy,zU8,zLN,zV3,zV4,zU6,zNk,-List.length_flatMap]
    refine⟨by rw[zFB];omega,?_⟩
    refine hW.vc [] _ _ ?_
    simp[-List.getD_eq_getElem?_getD,zB7,zAO,zy,zMB]
    rw[zC (n:=(i:Int)+1) (by omega)]
    refine⟨⟨i+1,⟨by rw[zOm 0 h4],by omega⟩,by omega⟩,by omega⟩
   ·rw[List.take_of_length_le h4] at hlen ⊢
    have hX:zCM es=zGl es.length :: es.flatMap fun e=>nB e.S.length 2++e.S:=rfl
    rw[←hX]
    have hne:zCM es≠[]:=by rw[hX];simp
    have hL:(zCM es).length≤1300000:=by rw[hX,List.length_cons];omega
    have hR:zHS es=if (zCM es).length > 65536 then ([],7) else (zCM es,0):=by
     rw[zHS,if_neg (by omega),if_neg]
     rw[List.any_eq_true]
     rintro⟨x,hx,hx2⟩
     rw[h2 x hx] at hx2;cases hx2
    clear hX
    generalize zCM es=X at *
    refine hB.bld _ _ _ _ _ ?_
    simp[-List.getD_eq_getElem?_getD,zB7,zAO,zy,zU8,zLN,zV3,zV4,zU6,zNk]
    refine hW.vc [] _ _ ?_
    simp[-List.getD_eq_getElem?_getD,zB7,zAO,zy,zMB]
    refine⟨fun h6=>by rw[hR,if_pos (by omega)];simp,fun h6=>?_⟩
    refine hB.bld _ _ _ _ _ ?_
    simp[-List.getD_eq_getElem?_getD,zB7,zAO,zy,zU8,zLN,zV3,zV4,zU6,zNk]
    refine⟨by omega,?_⟩
    refine hW.vc [] _ _ ?_
    simp[-List.getD_eq_getElem?_getD,zB7,zAO,zy,zMB]
    rw[hR,if_neg (by omega)];simp
def zDd:zJ:=⟨[(.rd,.list .str)],[.str],true,fun _=>True,fun ps=>[.str (zHS (nth ps 0).L).1],fun _=>[]⟩
theorem zZh:zh Tryz.prog 189 zDd:=by
 refine zP [0,2,3] [.tmp 2] (zA (cs:=[]) zWc (zD (zB []))) mixed Tryz.func189 rfl (by decide) rfl (by decide) rfl ?_
 intro ps hT hpre W hW
 simp only[zDd,TyA,Ty,Tys] at hT hpre
 obtain⟨_,_,rfl,⟨es,rfl,hes,tes⟩,rfl⟩:=hT
 refine hW.vc [] _ _ ?_
 simp[-List.getD_eq_getElem?_getD,zDd,zB7]
end
end Go.Proofs.YthogljppoiekaaaGreat
