/-
  Part 33: contracts of functions, and the laws by which they are proved.
  Conditions: none.
-/
import Derived.Test.YthogljppoiekaaaGreatW31
import Derived.Test.YthogljppoiekaaaGreatW32
set_option linter.unusedVariables false
set_option linter.unusedSimpArgs false
set_option linter.unusedSectionVars false
set_option maxRecDepth 100000
namespace Go.Proofs.YthogljppoiekaaaGreat
section
variable [zS]
theorem zLa{s:ST}{es:List PV}{i:Nat}(h:i < es.length):zBK s (es.drop i)=if (zOo s (nth es i).S).2=true then zBK (zOo s (nth es i).S).1 (es.drop (i+1)) else (s,false):=by
 rw[zG h,zBK]
theorem zYv{s:ST}{r:List UInt8}(h:(zOo s r).2=true):(zOo s r).1.ok=true:=by
 unfold zOo at h ⊢
 cases hc:zNs s r with
 | none=>rw[hc] at h;cases h
 | some o=>rw[hc] at h;exact h
theorem rcv_a{b:List UInt8}(h:(zBw b).2.2=8):yP b=(ST.no,([],0),8):=by rw[yP,if_pos h]
theorem rcv_b{b:List UInt8}(h:¬(zBw b).2.2=8)(h1:(zBK ST.one (zBw b).1).2=false):yP b=(ST.no,([],0),3):=by rw[yP,if_neg h,if_neg (by simp[h1])]
theorem rcv_c{b:List UInt8}{s:ST}(h:¬(zBw b).2.2=8)(h1:zBK ST.one (zBw b).1=(s,true)):yP b=(s,(b.take (zBw b).2.1,((zBw b).2.1:Int)),0):=by rw[yP,if_neg h,h1,if_pos rfl]
def zAE:zJ:=⟨[(.rd,.agg [.str,.int .i64])],[.agg [.int .i64,.int .i64,.list (.agg [.int .i64,.str])],.agg [.str,.int .i64],.int .i64],true,fun ps=>(nth (nth ps 0).A 0).S.length≤900000,
 fun ps=>[.agg [.int .i64 (yP (nth (nth ps 0).A 0).S).1.t,.int .i64 (yP (nth (nth ps 0).A 0).S).1.v,.list (yP (nth (nth ps 0).A 0).S).1.log],.agg [.str (yP (nth (nth ps 0).A 0).S).2.1.1,.int .i64 (yP (nth (nth ps 0).A 0).S).2.1.2],.int .i64 (yP (nth (nth ps 0).A 0).S).2.2],fun _=>[]⟩
theorem zEh:zh Tryz.prog 86 zAE:=by
 refine zP [0,1,2,3,4,5,6,7,8,10,11,12,25,26,27] [.cell 2 71,.cell 3 73,.tmp 4] (zA (cs:=[]) zYH (zA (cs:=[]) zTR (zD (zB [])))) mixed Tryz.func86 rfl (by decide) rfl (by decide) rfl ?_
 intro ps hT hpre W hW
 simp only[zAE,TyA,Ty,Tys] at hT hpre
 obtain⟨_,_,rfl,⟨_,rfl,_,_,rfl,⟨b,rfl,hb⟩,_,_,rfl,⟨sure,rfl,hsure⟩,rfl⟩,rfl⟩:=hT
 simp only[zE,zF,zBE,zEW] at hpre
 have hfl:=zPB b.length b
 have hfl:(zBw b).2.1≤b.length∧(zBw b).1.length≤(zBw b).2.1:=hfl
 refine hW.vc [(13,[7,8],tkN [0,1,3,5] (tkM [2] (tkN [4] (tkM [6] (alN [7,8,9] .done)))))] _ _ ?_
 simp[-List.getD_eq_getElem?_getD,zAE,zAb,zJ4]
 refine⟨hpre,fun h=>by rw[rcv_a h];simp[ST.no],fun h _=>?_⟩
 refine hW.loopS _ _ _ [.bx 8 [.int .i64,.int .i64,.list (.agg [.int .i64,.str])],.sl 27 .dp (.int .i64)] (fun ys=>∃(s:ST) (i:Nat),ys=[.agg [.int .i64 s.t,.int .i64 s.v,.list s.log],.int .i64 i]∧i≤(zBw b).1.length∧s.ok=true∧zBK ST.one (zBw b).1=zBK s ((zBw b).1.drop i)) (fun ys=>(zBw b).1.length - (nth ys 1).I.toNat) ?_ ?_
 ·simp[-List.getD_eq_getElem?_getD,zAE,zAb,zJ4]
  exact⟨ST.one,0,⟨⟨rfl,rfl,rfl⟩,rfl⟩,by omega,by decide,rfl⟩
 ·rintro ys ⟨s,i,rfl,g1,g2,g3⟩
  have hs:=(ST.facts g2).2.2.2
  refine hW.vc [(13,[7,8],tkN [0,1,3,5] (tkM [2] (tkN [4] (tkM [6] (alN [7,8,9] .done)))))] _ _ ?_
  simp[-List.getD_eq_getElem?_getD,zAE,zAb,zJ4,zEy]
  have e:(⟨s.t,s.v,s.log⟩:ST)=s:=rfl
  rw[e]
  refine⟨fun h1=>⟨h1,fun _=>⟨by omega,fun h2=>?_,fun h2=>?_⟩⟩,fun h1=>?_⟩
  ·rw[zLa h1,if_neg (by simp[h2])] at g3
   rw[rcv_b h (by rw[g3])]
   simp[ST.no]
  ·rw[zLa h1,if_pos h2] at g3
   rw[zC (by omega)]
   exact⟨⟨_,i+1,⟨⟨rfl,rfl,rfl⟩,rfl⟩,by omega,zYv h2,g3⟩,by omega⟩
  ·rw[List.drop_eq_nil_of_le h1] at g3
   rw[rcv_c h g3]
   exact⟨by decide +kernel,hfl.1,⟨rfl,rfl,rfl⟩,⟨rfl,rfl⟩,rfl⟩
theorem rcs_a{b:List UInt8}{sure:Int}(h:(zBw b).2.2=8):zEO b sure=(ST.one,(b,sure),8):=by rw[zEO,if_pos h]
theorem rcs_b{b:List UInt8}{sure:Int}{s:ST}(h:¬(zBw b).2.2=8)(h1:zBK ST.one (zBw b).1=(s,false)):zEO b sure=(s,(b,sure),3):=by rw[zEO,if_neg h,h1,if_neg (by simp)]
theorem rcs_c{b:List UInt8}{sure:Int}{s:ST}(h:¬(zBw b).2.2=8)(h1:zBK ST.one (zBw b).1=(s,true)):zEO b sure=(s,(b.take (zBw b).2.1,((zBw b).2.1:Int)),0):=by rw[zEO,if_neg h,h1,if_pos rfl]
def yE:zJ:=⟨[(.rd,.agg [.str,.int .i64])],[.agg [.int .i64,.int .i64,.list (.agg [.int .i64,.str])],.agg [.str,.int .i64],.int .i64],false,fun ps=>(nth (nth ps 0).A 0).S.length≤900000,
 fun ps=>[.agg [.int .i64 (zEO (nth (nth ps 0).A 0).S (nth (nth ps 0).A 1).I).1.t,.int .i64 (zEO (nth (nth ps 0).A 0).S (nth (nth ps 0).A 1).I).1.v,.list (zEO (nth (nth ps 0).A 0).S (nth (nth ps 0).A 1).I).1.log],.agg [.str (zEO (nth (nth ps 0).A 0).S (nth (nth ps 0).A 1).I).2.1.1,.int .i64 (zEO (nth (nth ps 0).A 0).S (nth (nth ps 0).A 1).I).2.1.2],.int .i64 (zEO (nth (nth ps 0).A 0).S (nth (nth ps 0).A 1).I).2.2],fun _=>[]⟩
theorem zHJ:zh Tryz.prog 110 yE:=by
 refine zP [0,1,2,3,4,5,6,7,8,9,10,11] [.cell 2 71,.cell 3 73,.tmp 4] (zA (cs:=[]) zWa (zA (cs:=[]) zUo (zD (zB [])))) mixed Tryz.func110 rfl (by decide) rfl (by decide) rfl ?_
 intro ps hT hpre W hW
 simp only[yE,TyA,Ty,Tys] at hT hpre
 obtain⟨_,_,rfl,⟨_,rfl,_,_,rfl,⟨b,rfl,hb⟩,_,_,rfl,⟨sure,rfl,hsure⟩,rfl⟩,rfl⟩:=hT
 simp only[zE,zF,zBE,zEW] at hpre
 have hfl:=zPB b.length b
 have hfl:(zBw b).2.1≤b.length∧(zBw b).1.length≤(zBw b).2.1:=hfl
 refine hW.vc [(4,[3,4],tkN [0,2] (tkM [1] (alN [3,4,5] .done))),(8,[10],tkN [0,1,2,3,4] (.alt 5 (tkN [6,7] (.alt 8 (alN [9,10,11] .done) (alS 9 (.alt 8 (alN [10,11] .done) (alS 10 (tkN [8] (alS 11 .done))))))) (alN [9,5] (tkN [6,7] (.alt 8 (alN [10,11] .done) (alS 10 (tkN [8] (alS 11 .done)))))))),(10,[2,3],tkN [0] (tkM [1] (alN [2,3,4] .done))),(12,[7,8],tkN [0,1,3,5] (tkM [2] (tkN [4] (tkM [6] (alN [7,8,9] .done)))))] _ _ ?_
 simp[-List.getD_eq_getElem?_getD,yE,zEt,zHn,zAb,zAb]
 refine⟨hpre,fun h=>?_,fun h=>?_⟩
 ·rw[rcs_a h]
  exact⟨by decide +kernel,⟨rfl,rfl,rfl⟩,⟨rfl,rfl⟩,h⟩
 refine hW.loopS _ _ _ [.fx 8 [.int .i64,.int .i64,.list (.agg [.int .i64,.str])],.sl 9 .dp (.int .i64)] (fun ys=>∃(s:ST) (i:Nat),ys=[.agg [.int .i64 s.t,.int .i64 s.v,.list s.log],.int .i64 i]∧i≤(zBw b).1.length∧s.ok=true∧zBK ST.one (zBw b).1=zBK s ((zBw b).1.drop i)) (fun ys=>(zBw b).1.length - (nth ys 1).I.toNat) ?_ ?_
 ·simp[-List.getD_eq_getElem?_getD,yE,zEt,zHn,zAb]
  exact⟨ST.one,0,⟨⟨rfl,rfl,rfl⟩,rfl⟩,by omega,by decide,rfl⟩
 ·rintro ys ⟨s,i,rfl,g1,g2,g3⟩
  have hs:=(ST.facts g2).2.2.2
  refine hW.vc [(4,[3,4],tkN [0,2] (tkM [1] (alN [3,4,5] .done))),(8,[10],tkN [0,1,2,3,4] (.alt 5 (tkN [6,7] (.alt 8 (alN [9,10,11] .done) (alS 9 (.alt 8 (alN [10,11] .done) (alS 10 (tkN [8] (alS 11 .done))))))) (alN [9,5] (tkN [6,7] (.alt 8 (alN [10,11] .done) (alS 10 (tkN [8] (alS 11 .done)))))))),(10,[2,3],tkN [0] (tkM [1] (alN [2,3,4] .done))),(12,[7,8],tkN [0,1,3,5] (tkM [2] (tkN [4] (tkM [6] (alN [7,8,9] .done)))))] _ _ ?_
  simp[-List.getD_eq_getElem?_getD,yE,zEt,zHn,zAb,zEy,zAb]
  have e:(⟨s.t,s.v,s.log⟩:ST)=s:=rfl
  rw[e]
  refine fun _=>⟨fun h1=>⟨by decide +kernel,h1,fun _=>?_⟩,fun h1=>?_⟩
  ·obtain⟨d,d1,d2,d3⟩:=zTk b.length b (nth (zBw b).1 i) (zb h1)
   obtain⟨a1,a2⟩:=zb6 s (nth (zBw b).1 i).S
   refine⟨⟨by omega,by rw[d1,zEW];exact d3⟩,fun h2=>?_,fun h2=>?_⟩
   ·rw[a1] at h2
    rw[zLa h1,if_neg (by simp[h2])] at g3
    rw[rcs_b h g3]
    exact⟨by decide +kernel,⟨rfl,rfl,rfl⟩,⟨rfl,rfl⟩,rfl⟩
   ·rw[a1] at h2
    rw[zLa h1,if_pos h2] at g3
    rw[zC (by omega),a2 h2]
    exact⟨⟨_,i+1,⟨⟨rfl,rfl,rfl⟩,rfl⟩,by omega,zYv h2,g3⟩,by omega⟩
  ·rw[List.drop_eq_nil_of_le h1] at g3
   rw[rcs_c h g3]
   exact⟨by decide +kernel,hfl.1,⟨rfl,rfl,rfl⟩,⟨rfl,rfl⟩,rfl⟩
def zDz(b:List UInt8)(sure:Int):Bool:=leB b.length 60000&&inB sure 0 b.length
theorem zGL{a b:PV}(h1:(nth a.A 0).I=(nth b.A 0).I)(h2:(nth a.A 1).S=(nth b.A 1).S):ze a b=true:=by simp[ze,zEP,h1,h2]
theorem zGM{a b:PV}(h:(nth a.A 0).I=(nth b.A 0).I→¬(nth a.A 1).S=(nth b.A 1).S):ze a b=false:=by
 cases hk:ze a b with
 | false=>rfl
 | true=>
  simp only[ze,zEP,Bool.and_eq_true,beq_iff_eq] at hk
  exact absurd hk.2 (h hk.1)
def zA7:zJ:=⟨[(.rd,.list (.agg [.int .i64,.str])),(.rd,.list (.agg [.int .i64,.str]))],[.int .i64],true,fun _=>True,fun ps=>[.int .i64 (zBk (nth ps 0).L (nth ps 1).L)],fun _=>[]⟩
theorem zIK:zh Tryz.prog 161 zA7:=by
 refine zP [0,1,4,5] [.tmp 4] (zD (zB [])) mixed Tryz.func161 rfl (by decide) rfl (by decide) rfl ?_
 intro ps hT hpre W hW
 simp only[zA7,TyA,Ty,Tys] at hT hpre
 obtain⟨_,_,rfl,⟨es,rfl,hes,tes⟩,_,_,rfl,⟨fs,rfl,hfs,tfs⟩,rfl⟩:=hT
 refine hW.vc [(2,[],tkN [0,1,2,3,4,5,6,7,8,9,10,11,12,13,14,15,16,17,18,19,20] .done)] _ _ ?_
 simp[-List.getD_eq_getElem?_getD,zA7]
 refine hW.loopS _ _ _ [.sl 5 .dp (.int .i64)] (fun ys=>∃i:Nat,ys=[.int .i64 i]∧i≤zBk es fs) (fun ys=>es.length - (nth ys 0).I.toNat) ?_ ?_
 ·simp[-List.getD_eq_getElem?_getD,zA7]
  exact⟨0,rfl,by omega⟩
 ·rintro ys ⟨i,rfl,h1⟩
  refine hW.vc [(2,[],tkN [0,1,2,3,4,5,6,7,8,9,10,11,12,13,14,15,16,17,18,19,20] .done)] _ _ ?_
  simp[-List.getD_eq_getElem?_getD,zA7]
  have hc:=zQf es fs
  refine⟨by decide +kernel,fun _ _=>⟨fun a b=>⟨⟨a,b⟩,a⟩,fun _ _=>⟨fun a b=>⟨⟨a,b⟩,by decide +kernel⟩,fun a b c d=>?_,fun h=>?_⟩⟩⟩
  ·have:=(zIa h1 a b).1 (zGL c d)
   rw[zC (by omega)]
   exact⟨⟨i+1,by omega,by omega⟩,by omega⟩
  ·by_cases a:i < es.length
   ·by_cases b:i < fs.length
    ·rw[(zIa h1 a b).2 (zGM (h a b))]
    ·omega
   ·omega
end
section
variable [zS]
theorem zF3(e:PV):z8 [.int .i64 (nth e.A 0).I,.int .i64 (nth e.A 1).I,.int .i64 (nth e.A 2).I,.int .i64 (nth e.A 3).I,.int .i64 (nth e.A 4).I,.bool (nth e.A 5).B,.list (nth e.A 6).L,.int .i64 (nth e.A 7).I,.int .i64 (nth e.A 8).I,.int .i64 (nth e.A 9).I,.list (nth e.A 10).L,.list (nth e.A 11).L,.list (nth e.A 12).L]=z8 e.A:=rfl
end
end Go.Proofs.YthogljppoiekaaaGreat
