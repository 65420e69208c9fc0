/-
  Part 10: contracts of functions, and the laws by which they are proved.
  Conditions: none.
-/
import Derived.Test.YtdmbfkooebldcaaGreatDoorW9
set_option linter.unusedVariables false
set_option linter.unusedSimpArgs false
set_option linter.unusedSectionVars false
set_option maxRecDepth 100000
namespace Go.Proofs.YtdmbfkooebldcaaGreatDoor
section
variable [zZ]
def zBM:zS:=⟨[(.rd,.int .i64)],[.list (.agg [.int .i64,.int .i64])],true,fun ps=>0≤(nth ps 0).I∧(nth ps 0).I≤10000,fun ps=>[.list (List.replicate (nth ps 0).I.toNat blC)],fun _=>[]⟩
theorem zK5:yQ Tryz.prog 48 zBM:=by
 refine zf [0,2,3,4] [.tmp 2] (zI (zF [])) zc Tryz.func48 rfl (by decide) rfl (by decide) rfl ?_
 intro ps hT hpre W hW
 simp only[zBM,TyA,Ty,Tys] at hT hpre
 obtain⟨_,_,rfl,⟨n,rfl,hn⟩,rfl⟩:=hT
 simp only[zE,yu] at hpre
 refine hW.vc [] _ _ ?_
 simp[-List.reduceReplicate,-List.getD_eq_getElem?_getD,zBM]
 refine hW.loopS _ _ _ [.sl 3 .dp (.list (.agg [.int .i64,.int .i64])),.sl 4 .dp (.int .i64)] (fun ys=>∃i:Nat,ys=[.list (List.replicate i blC),.int .i64 i]∧i≤n.toNat) (fun ys=>n.toNat - (nth ys 1).I.toNat) ?_ ?_
 ·simp[-List.reduceReplicate,-List.getD_eq_getElem?_getD,zBM]
  exact⟨0,⟨rfl,rfl⟩,by omega⟩
 ·rintro ys ⟨i,rfl,g0⟩
  have w1:IntKind.i64.wrap ((i:Int)+1)=i+1:=zC (by omega)
  refine hW.vc [] _ _ ?_
  simp[-List.reduceReplicate,-List.getD_eq_getElem?_getD,zBM,w1]
  exact⟨fun h=>⟨by omega,fun _=>⟨⟨i+1,⟨(List.replicate_succ' (n:=i) (a:=blC)).symm,by omega⟩,by omega⟩,by omega⟩⟩,fun h=>by omega⟩
def zCV:zS:=⟨[(.rd,.int .i64),(.rd,.int .i64)],[.agg [.int .i64,.int .i64,.int .i64,.int .i64,.int .i64,.int .i64,.int .i64,.int .i64,.int .i64,.str,.list (.agg [.int .i64,.int .i64]),.list .str]],true,fun ps=>2≤(nth ps 0).I∧(nth ps 0).I≤24∧2≤(nth ps 1).I∧(nth ps 1).I≤10,fun ps=>[(zKy (nth ps 0).I (nth ps 1).I).pv],fun _=>[]⟩
theorem zKI:yQ Tryz.prog 33 zCV:=by
 refine zf [0,1,4] [.cell 4 60] (zA (cs:=[]) zK5 (zI (zF []))) zc Tryz.func33 rfl (by decide) rfl (by decide) rfl ?_
 intro ps hT hpre W hW
 simp only[zCV,TyA,Ty,Tys] at hT hpre
 obtain⟨_,_,rfl,⟨w,rfl,hw⟩,_,_,rfl,⟨h,rfl,hh⟩,rfl⟩:=hT
 simp only[zE,zG,yu] at hpre
 refine hW.vc [] _ _ ?_
 simp[-List.reduceReplicate,-List.getD_eq_getElem?_getD,zCV,zBM,SC.pv,zKy]
 have h1:2*2≤w*h:=Int.mul_le_mul hpre.1 hpre.2.2.1 (by omega) (by omega)
 have h2:w*h≤24*10:=Int.mul_le_mul hpre.2.1 hpre.2.2.2 (by omega) (by omega)
 rw[zC (n:=w*h) (by omega),zC (n:=h - 1) (by omega)]
 exact⟨⟨by omega,by omega⟩,rfl,rfl⟩
def zY:zS:=⟨[(.bx,.box [.int .i64,.int .i64,.int .i64,.int .i64,.int .i64,.int .i64,.int .i64,.int .i64,.int .i64,.str,.list (.agg [.int .i64,.int .i64]),.list .str]),(.rd,.int .i64),(.rd,.int .i64)],[],true,fun ps=>0≤(nth ps 1).I∧(nth ps 1).I≤(nth ps 2).I∧(nth ps 2).I≤(nth (nth ps 0).A 10).L.length∧(nth ps 2).I≤10000,fun _=>[],
 fun ps=>[SC.pv { zAj (nth ps 0).A with cs:=zB6 (nth (nth ps 0).A 10).L (nth ps 1).I.toNat (nth ps 2).I.toNat }]⟩
theorem zJP:yQ Tryz.prog 87 zY:=by
 refine zf [0,1,2,6] [] (zI (zF [])) zc Tryz.func87 rfl (by decide) rfl (by decide) rfl ?_
 intro ps hT hpre W hW
 simp only[zY,TyA,Ty,Tys] at hT hpre
 obtain⟨_,_,rfl,⟨_,rfl,_,_,rfl,⟨w,rfl,hw⟩,_,_,rfl,⟨h,rfl,hh⟩,_,_,rfl,⟨x,rfl,hx⟩,_,_,rfl,⟨y,rfl,hy⟩,_,_,rfl,⟨look,rfl,hlook⟩,_,_,rfl,⟨top,rfl,htop⟩,_,_,rfl,⟨bot,rfl,hbot⟩,_,_,rfl,⟨sx,rfl,hsx⟩,_,_,rfl,⟨sy,rfl,hsy⟩,_,_,rfl,⟨tit,rfl,htit⟩,_,_,rfl,⟨cs,rfl,hcs,tcs⟩,_,_,rfl,⟨hist,rfl,hhist,thist⟩,rfl⟩,_,_,rfl,⟨a,rfl,ha⟩,_,_,rfl,⟨b,rfl,hb⟩,rfl⟩:=hT
 simp only[zE,zG,zBR,zBf,yu] at hpre
 refine hW.vc [] _ _ ?_
 simp[-List.getD_eq_getElem?_getD,zY,SC.pv,zAj]
 refine hW.loopS _ _ _ [.bx 0 [.int .i64,.int .i64,.int .i64,.int .i64,.int .i64,.int .i64,.int .i64,.int .i64,.int .i64,.str,.list (.agg [.int .i64,.int .i64]),.list .str],.sl 6 .dp (.int .i64)] (fun ys=>∃i:Nat,ys=[SC.pv ⟨w,h,x,y,look,top,bot,sx,sy,tit,zB6 cs a.toNat i,hist⟩,.int .i64 i]∧a.toNat≤i∧(i:Int)≤b) (fun ys=>b.toNat - (nth ys 1).I.toNat) ?_ ?_
 ·simp[-List.getD_eq_getElem?_getD,zY,SC.pv]
  exact⟨a.toNat,⟨zSs.symm,by omega⟩,by omega,by omega⟩
 ·rintro ys ⟨i,rfl,g0,g1⟩
  have w1:IntKind.i64.wrap ((i:Int)+1)=i+1:=zC (by omega)
  refine hW.vc [] _ _ ?_
  simp[-List.getD_eq_getElem?_getD,zY,SC.pv,zAj,w1]
  refine⟨fun h=>⟨?_,⟨i+1,⟨zSt g0 (by omega),by omega⟩,by omega,by omega⟩,by omega⟩,fun h=>?_⟩
  ·rw[zA8 (by omega) g0];omega
  ·rw[show i=b.toNat by omega]
def zu:zS:=⟨[(.rd,.agg [.int .i64,.int .i64,.int .i64,.int .i64,.int .i64,.int .i64,.int .i64,.int .i64,.int .i64,.str,.list (.agg [.int .i64,.int .i64]),.list .str]),(.rd,.int .i64)],[.str],true,fun ps=>ScI (zAj (nth ps 0).A)∧0≤(nth ps 1).I∧(nth ps 1).I < (nth (nth ps 0).A 1).I,fun ps=>[.str (zFi (nth (nth ps 0).A 10).L (nth (nth ps 0).A 0).I.toNat (nth ps 1).I.toNat)],fun _=>[]⟩
theorem zKH:yQ Tryz.prog 100 zu:=by
 refine zf [0,1,2,4,5,6,7] [.tmp 4] (zA (cs:=[]) zKJ (zI (zF []))) zc Tryz.func100 rfl (by decide) rfl (by decide) rfl ?_
 intro ps hT hpre W hW
 simp only[zu,TyA,Ty,Tys] at hT hpre
 obtain⟨_,_,rfl,⟨_,rfl,_,_,rfl,⟨w,rfl,hw⟩,_,_,rfl,⟨h,rfl,hh⟩,_,_,rfl,⟨x,rfl,hx⟩,_,_,rfl,⟨y,rfl,hy⟩,_,_,rfl,⟨look,rfl,hlook⟩,_,_,rfl,⟨top,rfl,htop⟩,_,_,rfl,⟨bot,rfl,hbot⟩,_,_,rfl,⟨sx,rfl,hsx⟩,_,_,rfl,⟨sy,rfl,hsy⟩,_,_,rfl,⟨tit,rfl,htit⟩,_,_,rfl,⟨cs,rfl,hcs,tcs⟩,_,_,rfl,⟨hist,rfl,hhist,thist⟩,rfl⟩,_,_,rfl,⟨yy,rfl,hyy⟩,rfl⟩:=hT
 simp only[zE,zG,zBR,zBf,yu] at hpre
 refine hW.vc [] _ _ ?_
 simp[-List.getD_eq_getElem?_getD,zu,zBG]
 obtain⟨hS,y0,y1⟩:=hpre
 have hn:=hS.nn
 have hw:=hS.w
 have hh:=hS.h
 simp only[zAj,zE,zG,yu,zBf] at hn hw hh
 obtain⟨Y,hY⟩:∃Y:Nat,yy=Y:=⟨yy.toNat,by omega⟩
 obtain⟨V,hV⟩:∃V:Nat,w=V:=⟨w.toNat,by omega⟩
 subst hY hV
 have hc:∀e∈cs,ceI e:=hS.c
 obtain⟨row,hrow⟩:∃row,row=(cs.drop (Y*V)).take V:=⟨_,rfl⟩
 have m1:(Y+1)*V≤h.toNat*V:=Nat.mul_le_mul_right _ (by omega)
 have m2:(Y+1)*V=Y*V+V:=by rw[Nat.add_mul,Nat.one_mul]
 have hl:row.length=V:=by rw[hrow,List.length_take,List.length_drop];simp only[Int.toNat_natCast] at hn;omega
 have hx:∀i,i < V→nth row i=nth cs (Y*V+i):=fun i hi=>by rw[hrow,zBV hi,zA5]
 have hR:zFi cs V Y=zFD (zHu row):=by rw[zFi,hrow]
 refine hW.loopS _ _ _ [.sl 5 .dp .str,.sl 6 .dp (.int .i64),.sl 7 .dp (.int .i64)] (fun ys=>∃i:Nat,ys=[.str (zFD (row.take i)),.int .i64 (zFD (zHu (row.take i))).length,.int .i64 i]∧i≤V) (fun ys=>V - (nth ys 2).I.toNat) ?_ ?_
 ·simp[-List.getD_eq_getElem?_getD,zu,zBG]
  exact⟨0,⟨by simp[zFD],by simp[zFD,zHu],rfl⟩,by omega⟩
 ·rintro ys ⟨i,rfl,g0⟩
  have w1:IntKind.i64.wrap ((i:Int)+1)=i+1:=zC (by omega)
  have m3:(Y:Int)*V≤240:=by have:Y*V≤240:=by { have:=Nat.mul_le_mul (show Y≤10 by omega) (show V≤24 by omega);omega };exact_mod_cast this
  have m4:(0:Int)≤(Y:Int)*V:=Int.mul_nonneg (by omega) (by omega)
  have w2:IntKind.i64.wrap ((Y:Int)*V)=(Y:Int)*V:=zC (by omega)
  obtain⟨p,hp⟩:∃p:Nat,p=Y*V+i:=⟨_,rfl⟩
  have w3:IntKind.i64.wrap ((Y:Int)*V+i)=(p:Int):=by rw[zC (by omega),hp];simp
  have tl:=zPP (cs:=row.take i)
  have tk:(row.take i).length≤24:=by rw[List.length_take];omega
  refine hW.vc [] _ _ ?_
  simp[-List.getD_eq_getElem?_getD,zu,zBG,w1,w2,w3]
  have hp2:i < V→p < cs.length:=fun h=>by simp only[Int.toNat_natCast] at hn;omega
  have hcx:i < V→nth cs p=nth row i:=fun h=>by rw[hx i h,hp]
  have hci:i < V→ceI (nth row i):=fun h=>by rw[←hcx h];exact hc _ (yR (hp2 h))
  have htk:i < V→row.take (i+1)=row.take i++[nth row i]:=fun h=>zBh (by omega)
  refine⟨fun h=>?_,fun h=>?_⟩
  ·rw[hcx h]
   have rl:=(zBy (r:=(nth (nth row i).A 0).I)).2
   have t1:zFD (row.take (i+1))=zFD (row.take i)++zCM (nth (nth row i).A 0).I:=by rw[htk h,zJw]
   refine⟨hp2 h,fun _=>⟨zN8 (hci h),by omega,hp2 h,fun _=>⟨fun h2 _=>⟨⟨i+1,⟨t1.symm,?_,by omega⟩,by omega⟩,by omega⟩,fun h2=>⟨⟨i+1,⟨t1.symm,?_,by omega⟩,by omega⟩,by omega⟩⟩⟩⟩
   ·rw[htk h,zHF,if_neg h2,zJw,List.length_append];omega
   ·rw[htk h,zHF,if_pos h2]
  ·have e:row.take i=row:=List.take_of_length_le (by omega)
   rw[e,hR]
   exact⟨zPR row,zLd row⟩
def zAM:zS:=⟨[(.rd,.agg [.int .i64,.int .i64,.int .i64,.int .i64,.int .i64,.int .i64,.int .i64,.int .i64,.int .i64,.str,.list (.agg [.int .i64,.int .i64]),.list .str]),(.rd,.int .i64)],[.str],true,fun ps=>ScI (zAj (nth ps 0).A)∧0≤(nth ps 1).I∧(nth ps 1).I < (nth (nth ps 0).A 1).I,fun ps=>[.str (zGa (((nth (nth ps 0).A 10).L.drop ((nth ps 1).I.toNat*(nth (nth ps 0).A 0).I.toNat)).take (nth (nth ps 0).A 0).I.toNat))],fun _=>[]⟩
theorem zK4:yQ Tryz.prog 36 zAM:=by
 refine zf [0,1,2,4,5,6,7] [.tmp 4] (zA (cs:=[]) zJM (zI (zF []))) zc Tryz.func36 rfl (by decide) rfl (by decide) rfl ?_
 intro ps hT hpre W hW
 simp only[zAM,TyA,Ty,Tys] at hT hpre
 obtain⟨_,_,rfl,⟨_,rfl,_,_,rfl,⟨w,rfl,hw⟩,_,_,rfl,⟨h,rfl,hh⟩,_,_,rfl,⟨x,rfl,hx⟩,_,_,rfl,⟨y,rfl,hy⟩,_,_,rfl,⟨look,rfl,hlook⟩,_,_,rfl,⟨top,rfl,htop⟩,_,_,rfl,⟨bot,rfl,hbot⟩,_,_,rfl,⟨sx,rfl,hsx⟩,_,_,rfl,⟨sy,rfl,hsy⟩,_,_,rfl,⟨tit,rfl,htit⟩,_,_,rfl,⟨cs,rfl,hcs,tcs⟩,_,_,rfl,⟨hist,rfl,hhist,thist⟩,rfl⟩,_,_,rfl,⟨yy,rfl,hyy⟩,rfl⟩:=hT
 simp only[zE,zG,zBR,zBf,yu] at hpre
 refine hW.vc [(6,[4,9],tkN [0,1,2,5] (tkM [6] (.alt 3 (.alt 4 (tkN [7] (alN [8,9,10] .done)) (alS 7 (.alt 4 (alN [8,9,10] .done) (alN [8,4,9,10] .done)))) (alS 7 (.alt 3 (.alt 4 (alN [8,9,10] .done) (alN [8,4,9,10] .done)) (alN [8,3,4,9,10] .done))))))] _ _ ?_
 simp[-List.getD_eq_getElem?_getD,zAM,yn]
 obtain⟨hS,y0,y1⟩:=hpre
 have hn:=hS.nn
 have hw:=hS.w
 have hh:=hS.h
 simp only[zAj,zE,zG,yu,zBf] at hn hw hh
 obtain⟨Y,hY⟩:∃Y:Nat,yy=Y:=⟨yy.toNat,by omega⟩
 obtain⟨V,hV⟩:∃V:Nat,w=V:=⟨w.toNat,by omega⟩
 subst hY hV
 have hc:∀e∈cs,ceI e:=hS.c
 obtain⟨row,hrow⟩:∃row,row=(cs.drop (Y*V)).take V:=⟨_,rfl⟩
 have m1:(Y+1)*V≤h.toNat*V:=Nat.mul_le_mul_right _ (by omega)
 have m2:(Y+1)*V=Y*V+V:=by rw[Nat.add_mul,Nat.one_mul]
 have hl:row.length=V:=by rw[hrow,List.length_take,List.length_drop];simp only[Int.toNat_natCast] at hn;omega
 have hx:∀i,i < V→nth row i=nth cs (Y*V+i):=fun i hi=>by rw[hrow,zBV hi,zA5]
 refine hW.loopS _ _ _ [.sl 5 .dp (.list (.int .u8)),.sl 6 .dp (.int .i64)] (fun ys=>∃i:Nat,ys=[.list (zw (zGa (row.take i))),.int .i64 i]∧i≤V) (fun ys=>V - (nth ys 1).I.toNat) ?_ ?_
 ·simp[-List.getD_eq_getElem?_getD,zAM,yn]
  exact⟨0,⟨by simp[zGa,zw],rfl⟩,by omega⟩
 ·rintro ys ⟨i,rfl,g0⟩
  have w1:IntKind.i64.wrap ((i:Int)+1)=i+1:=zC (by omega)
  have m3:(Y:Int)*V≤240:=by have:Y*V≤240:=by { have:=Nat.mul_le_mul (show Y≤10 by omega) (show V≤24 by omega);omega };exact_mod_cast this
  have m4:(0:Int)≤(Y:Int)*V:=Int.mul_nonneg (by omega) (by omega)
  have w2:IntKind.i64.wrap ((Y:Int)*V)=(Y:Int)*V:=zC (by omega)
  obtain⟨p,hp⟩:∃p:Nat,p=Y*V+i:=⟨_,rfl⟩
  have w3:IntKind.i64.wrap ((Y:Int)*V+i)=(p:Int):=by rw[zC (by omega),hp];simp
  refine hW.vc [(6,[4,9],tkN [0,1,2,5] (tkM [6] (.alt 3 (.alt 4 (tkN [7] (alN [8,9,10] .done)) (alS 7 (.alt 4 (alN [8,9,10] .done) (alN [8,4,9,10] .done)))) (alS 7 (.alt 3 (.alt 4 (alN [8,9,10] .done) (alN [8,4,9,10] .done)) (alN [8,3,4,9,10] .done))))))] _ _ ?_
  simp[-List.getD_eq_getElem?_getD,zAM,yn,w1,w2,w3]
  have hp2:i < V→p < cs.length:=fun h=>by simp only[Int.toNat_natCast] at hn;omega
  have hcx:i < V→nth cs p=nth row i:=fun h=>by rw[hx i h,hp]
  have htk:i < V→row.take (i+1)=row.take i++[nth row i]:=fun h=>zBh (by omega)
  have hbl:(zw (zGa (row.take i))).length≤96:=by
   rw[zDl]
   have q:=(zI3 (cs:=row.take i) fun c hcm=>hc c (List.mem_of_mem_drop (List.mem_of_mem_take (by rw[hrow] at hcm;exact List.mem_of_mem_take hcm)))).2
   rw[q,List.length_take];omega
  refine⟨fun h=>?_,fun h=>?_⟩
  ·obtain⟨r,l,hrl,r1,r2,r3,r4,l1,l2⟩:=hc _ (yR (hp2 h))
   have hb3:(zw (nB (nth (nth cs p).A 0).I 3)).length=3:=by rw[zDl,zGz]
   have hA:(nth (nth cs p).A 0).I=r∧(nth (nth cs p).A 1).I=l:=by rw[hrl];exact⟨rfl,rfl⟩
   refine⟨hp2 h,fun _ _ _ _=>⟨by decide +kernel,by omega,by omega,fun _=>⟨by omega,fun _=>⟨⟨i+1,⟨?_,by omega⟩,by omega⟩,by omega⟩⟩⟩⟩
   rw[htk h,zLv,zDm,zDm,←hcx h,hA.1,hA.2]
   congr 2
   have wl:IntKind.u8.wrap l=l:=by simp[IntKind.wrap,IntKind.signed,IntKind.bits];omega
   have bl:=zDG l
   simp only[zw,List.map_cons,List.map_nil,wl]
   congr 1
   rw[bl,Int.emod_eq_of_lt (by omega) (by omega)]
  ·rw[zHN,List.take_of_length_le (by omega),hrow]
end
section
variable [zZ]
def zO:zS:=⟨[(.bx,.box [.int .i64,.int .i64,.int .i64,.int .i64,.int .i64,.int .i64,.int .i64,.int .i64,.int .i64,.str,.list (.agg [.int .i64,.int .i64]),.list .str]),(.rd,.int .i64),(.rd,.int .i64),(.rd,.int .i64)],[],true,fun ps=>ScI (zAj (nth ps 0).A)∧0≤(nth ps 1).I∧(nth ps 1).I≤(nth ps 2).I∧(nth ps 2).I < (nth (nth ps 0).A 1).I∧-100≤(nth ps 3).I∧(nth ps 3).I≤100,fun _=>[],
 fun ps=>[SC.pv (if 0≤(nth ps 3).I then upN (nth ps 1).I (nth ps 2).I true (nth ps 3).I.toNat (zAj (nth ps 0).A) else dnN (nth ps 1).I (nth ps 2).I (-(nth ps 3).I).toNat (zAj (nth ps 0).A))]⟩
set_option maxHeartbeats 1000000 in
theorem zFI:yQ Tryz.prog 89 zO:=by
 refine zf [0,1,2,3,8,9,10] [] (zA (cs:=[]) zJP (zA (cs:=[]) zKH (zI (zF [])))) zc Tryz.func89 rfl (by decide) rfl (by decide) rfl ?_
 intro ps hT hpre W hW
 simp only[zO,TyA,Ty,Tys] at hT hpre
 obtain⟨_,_,rfl,⟨_,rfl,_,_,rfl,⟨w,rfl,hw⟩,_,_,rfl,⟨h,rfl,hh⟩,_,_,rfl,⟨x,rfl,hx⟩,_,_,rfl,⟨y,rfl,hy⟩,_,_,rfl,⟨look,rfl,hlook⟩,_,_,rfl,⟨top,rfl,htop⟩,_,_,rfl,⟨bot,rfl,hbot⟩,_,_,rfl,⟨sx,rfl,hsx⟩,_,_,rfl,⟨sy,rfl,hsy⟩,_,_,rfl,⟨tit,rfl,htit⟩,_,_,rfl,⟨cs,rfl,hcs,tcs⟩,_,_,rfl,⟨hist,rfl,hhist,thist⟩,rfl⟩,_,_,rfl,⟨a,rfl,ha⟩,_,_,rfl,⟨b,rfl,hb⟩,_,_,rfl,⟨k,rfl,hk⟩,rfl⟩:=hT
 simp only[zE,zG,zBR,zBf,yu] at hpre
 obtain⟨hS,a0,ab,bh,k0,k1⟩:=hpre
 obtain⟨V,hV⟩:∃V:Nat,w=V:=⟨w.toNat,by have:=hS.w;simp only[zAj,zE,yu] at this;omega⟩
 obtain⟨A,hA⟩:∃A:Nat,a=A:=⟨a.toNat,by omega⟩
 obtain⟨B,hB⟩:∃B:Nat,b=B:=⟨b.toNat,by omega⟩
 subst hV hA hB
 obtain⟨S0,hS0⟩:∃S0:SC,S0=⟨V,h,x,y,look,top,bot,sx,sy,tit,cs,hist⟩:=⟨_,rfl⟩
 have hS:ScI S0:=by rw[hS0];exact hS
 have hw:=hS.w
 have hh:=hS.h
 have hw0:S0.w=V:=by rw[hS0]
 have hh0:S0.h=h:=by rw[hS0]
 rw[hw0] at hw
 rw[hh0] at hh
 have m1:B*V+V≤240:=by have:=Nat.mul_le_mul (show B+1≤10 by omega) (show V≤24 by omega);rw[Nat.add_mul,Nat.one_mul] at this;omega
 have m2:A*V≤B*V:=Nat.mul_le_mul_right _ (by omega)
 have m3:(B+1)*V≤h.toNat*V:=Nat.mul_le_mul_right _ (by omega)
 have m4:(B+1)*V=B*V+V:=by rw[Nat.add_mul,Nat.one_mul]
 have m5:(A+1)*V=A*V+V:=by rw[Nat.add_mul,Nat.one_mul]
 have i1:(A:Int)*V=((A*V:Nat):Int):=by simp
 have i2:(B:Int)*V=((B*V:Nat):Int):=by simp
 have w1:IntKind.i64.wrap ((A:Int)*V)=(A:Int)*V:=zC (by omega)
 have w2:IntKind.i64.wrap ((B:Int)*V)=(B:Int)*V:=zC (by omega)
 have w3:IntKind.i64.wrap ((B:Int)+1)=B+1:=zC (by omega)
 have w4:IntKind.i64.wrap ((A:Int)+1)=A+1:=zC (by omega)
 have j1:((B:Int)+1)*V=((B*V+V:Nat):Int):=by rw[Int.add_mul,Int.one_mul];simp
 have j2:((A:Int)+1)*V=((A*V+V:Nat):Int):=by rw[Int.add_mul,Int.one_mul];simp
 have w5:IntKind.i64.wrap (((B:Int)+1)*V)=((B:Int)+1)*V:=zC (by omega)
 have w6:IntKind.i64.wrap (((A:Int)+1)*V)=((A:Int)+1)*V:=zC (by omega)
 obtain⟨F,hF⟩:∃F:SC,F=if 0≤k then upN A B true k.toNat S0 else dnN A B (-k).toNat S0:=⟨_,rfl⟩
 have hsc:zAj [.int .i64 V,.int .i64 h,.int .i64 x,.int .i64 y,.int .i64 look,.int .i64 top,.int .i64 bot,.int .i64 sx,.int .i64 sy,.str tit,.list cs,.list hist]=S0:=by rw[hS0];rfl
 refine hW.vc [] _ _ ?_
 simp[-List.getD_eq_getElem?_getD,zO,zu,zY,SC.pv]
 by_cases hk:0≤k
 ·rw[if_pos hk] at hF
  have hif:∀(d:Decidable (0≤k)) (X Y:SC),@ite SC (0≤k) d X Y=X:=fun d X Y=>if_pos hk
  refine hW.loopS _ _ _ [.bx 0 [.int .i64,.int .i64,.int .i64,.int .i64,.int .i64,.int .i64,.int .i64,.int .i64,.int .i64,.str,.list (.agg [.int .i64,.int .i64]),.list .str],.sl 3 .dp (.int .i64)] (fun ys=>∃(m:Nat) (s:SC),ys=[s.pv,.int .i64 m]∧m≤100∧ScI s∧s.w=V∧s.h=h∧F=upN A B true m s) (fun ys=>(nth ys 1).I.toNat) ?_ ?_
  ·simp[-List.getD_eq_getElem?_getD,zO,zu,zY,SC.pv]
   refine⟨k.toNat,S0,⟨?_,by omega⟩,by omega,hS,hw0,hh0,hF⟩
   rw[hS0];and_intros<;>rfl
  ·rintro ys ⟨m,s,rfl,g1,g2,g3,g4,g5⟩
   have w7:IntKind.i64.wrap ((m:Int) - 1)=m - 1:=zC (by omega)
   have gn:=g2.nn
   have gm:=g2.m
   have gy:=g2.y
   obtain⟨w',h',x',y',look',top',bot',sx',sy',tit',cs',hist'⟩:=s
   simp only at g3 g4 gn gm gy
   subst g3 g4
   simp only[Int.toNat_natCast] at gn
   refine hW.vc [(4,[10,13],tkN [0,1,2,3,4,5,6,7] (alN [8,9,10] (tkN [11,12] (alS 13 .done)))),(10,[18],tkN [0,1,2,3,4,5,6,7,8,9,10,11,12,13,14,15,16,17] (alS 18 .done)),(11,[14],tkN [0,1,2,3,4,5,6,7,8,9,10,11,12,13] (alS 14 .done)),(17,[18],tkN [0,1,2,3,4,5,6,7,8,9,10,11,12,13,14,15,16,17] (alS 18 .done)),(18,[14],tkN [0,1,2,3,4,5,6,7,8,9,10,11,12,13] (alS 14 .done))] _ _ ?_
   simp[-List.getD_eq_getElem?_getD,zO,zu,zY,SC.pv,hif,hsc,←hF,w1,w2,w3,w4,w5,w6,w7]
   refine⟨fun hm=>⟨fun ha=>⟨by decide +kernel,⟨g2,by omega⟩,by omega,fun _ _=>⟨fun h6=>⟨by omega,fun _=>⟨by omega,?_⟩⟩,fun h6=>?_⟩⟩,fun ha=>?_⟩,fun hm=>?_⟩
   ·obtain⟨HH,hHH⟩:∃HH,HH=List.take hist'.length (hist'++[PV.str (zFi cs' V 0)]).tail:=⟨_,rfl⟩
    rw[←hHH]
    have hU:upS ⟨V,h',x',y',look',top',bot',sx',sy',tit',cs',hist'⟩ A B true=⟨V,h',x',y',look',top',bot',sx',sy',tit',upC cs' V A B,HH⟩:=by
     have e:HH=zL0 hist' (zFi cs' V 0):=by
      rw[hHH,zL0,if_pos (by omega),List.drop_one,List.take_of_length_le (by simp)]
     simp only[upS,Int.toNat_natCast]
     rw[if_pos ⟨by omega,trivial⟩,e]
    refine hW.loopS _ _ _ [.bx 0 [.int .i64,.int .i64,.int .i64,.int .i64,.int .i64,.int .i64,.int .i64,.int .i64,.int .i64,.str,.list (.agg [.int .i64,.int .i64]),.list .str],.sl 9 .dp (.int .i64)] (fun ys=>∃i:Nat,ys=[SC.pv ⟨V,h',x',y',look',top',bot',sx',sy',tit',shU cs' V (A*V) i,HH⟩,.int .i64 i]∧A*V≤i∧i≤B*V) (fun ys=>B*V - (nth ys 1).I.toNat) ?_ ?_
    ·simp[-List.getD_eq_getElem?_getD,zO,zu,zY,SC.pv]
     exact⟨A*V,⟨zNP.symm,by simp⟩,Nat.le_refl _,m2⟩
    ·rintro ys ⟨i,rfl,r1,r2⟩
     have l1:=zDZ (cs:=cs') (w:=V) r1 (by omega)
     have w8:IntKind.i64.wrap ((i:Int)+1)=i+1:=zC (by omega)
     have w9:IntKind.i64.wrap ((i:Int)+V)=((i+V:Nat):Int):=by rw[zC (by omega)];simp
     obtain⟨p,hp⟩:∃p,p=i+V:=⟨_,rfl⟩
     rw[←hp] at w9
     refine hW.vc [(4,[10,13],tkN [0,1,2,3,4,5,6,7] (alN [8,9,10] (tkN [11,12] (alS 13 .done)))),(10,[18],tkN [0,1,2,3,4,5,6,7,8,9,10,11,12,13,14,15,16,17] (alS 18 .done)),(11,[14],tkN [0,1,2,3,4,5,6,7,8,9,10,11,12,13] (alS 14 .done)),(17,[18],tkN [0,1,2,3,4,5,6,7,8,9,10,11,12,13,14,15,16,17] (alS 18 .done)),(18,[14],tkN [0,1,2,3,4,5,6,7,8,9,10,11,12,13] (alS 14 .done))] _ _ ?_
     simp[-List.getD_eq_getElem?_getD,zO,zu,zY,SC.pv,zAj,w1,w2,w3,w5,w7,w8,w9]
     have hB2:B*V+V≤cs'.length:=by omega
     have hcp:i < B*V→nth (shU cs' V (A*V) i) p=nth cs' p:=fun h=>by rw[zCe r1 (by omega) (by omega),if_neg (by omega),if_neg (by omega)]
     have hce:∀q,q < cs'.length→(.agg [.int .i64 (nth (nth cs' q).A 0).I,.int .i64 (nth (nth cs' q).A 1).I]:PV)=nth cs' q:=fun q hq=>by
      obtain⟨r,l,e,_⟩:=g2.c _ (yR hq)
      rw[e];rfl
     rw[i2,j1]
     refine⟨fun h=>⟨by decide +kernel,?_⟩,fun h=>⟨by decide +kernel,⟨by omega,by omega,by omega,by omega⟩,⟨m - 1,upS ⟨V,h',x',y',look',top',bot',sx',sy',tit',cs',hist'⟩ A B true,⟨?_,by omega⟩,by omega,zRc g2 (by omega) (by omega) (by show(B:Int)≤h' - 1;omega),rfl,rfl,?_⟩,by omega⟩⟩
     ·have h:i < B*V:=by omega
      have e:=zNQ (cs:=cs') (w:=V) r1 (by omega)
      rw[←hp,hcp h] at e
      rw[hcp h,hce p (by omega)]
      exact⟨by omega,fun _ _ _ _=>⟨by omega,⟨i+1,⟨e,by omega⟩,by omega,by omega⟩,by omega⟩⟩
     ·have ei:i=B*V:=by omega
      have e:zB6 (shU cs' V (A*V) i) ((B*V:Nat):Int).toNat ((B*V+V:Nat):Int).toNat=upC cs' V A B:=by
       rw[Int.toNat_natCast,Int.toNat_natCast,←m4,ei]
       exact zNK gn (by omega) (by omega)
      rw[hU,e]
      and_intros<;>rfl
     ·obtain⟨q,rfl⟩:∃q,m=q+1:=⟨m - 1,by omega⟩
      rw[g5];rfl
   ·obtain⟨HH,hHH⟩:∃HH,HH=hist'++[PV.str (zFi cs' V 0)]:=⟨_,rfl⟩
    rw[←hHH]
    have hU:upS ⟨V,h',x',y',look',top',bot',sx',sy',tit',cs',hist'⟩ A B true=⟨V,h',x',y',look',top',bot',sx',sy',tit',upC cs' V A B,HH⟩:=by
     have e:HH=zL0 hist' (zFi cs' V 0):=by
      rw[hHH,zL0,if_neg (by omega)]
     simp only[upS,Int.toNat_natCast]
     rw[if_pos ⟨by omega,trivial⟩,e]
    refine hW.loopS _ _ _ [.bx 0 [.int .i64,.int .i64,.int .i64,.int .i64,.int .i64,.int .i64,.int .i64,.int .i64,.int .i64,.str,.list (.agg [.int .i64,.int .i64]),.list .str],.sl 9 .dp (.int .i64)] (fun ys=>∃i:Nat,ys=[SC.pv ⟨V,h',x',y',look',top',bot',sx',sy',tit',shU cs' V (A*V) i,HH⟩,.int .i64 i]∧A*V≤i∧i≤B*V) (fun ys=>B*V - (nth ys 1).I.toNat) ?_ ?_
    ·simp[-List.getD_eq_getElem?_getD,zO,zu,zY,SC.pv]
     exact⟨A*V,⟨zNP.symm,by simp⟩,Nat.le_refl _,m2⟩
    ·rintro ys ⟨i,rfl,r1,r2⟩
     have l1:=zDZ (cs:=cs') (w:=V) r1 (by omega)
     have w8:IntKind.i64.wrap ((i:Int)+1)=i+1:=zC (by omega)
     have w9:IntKind.i64.wrap ((i:Int)+V)=((i+V:Nat):Int):=by rw[zC (by omega)];simp
     obtain⟨p,hp⟩:∃p,p=i+V:=⟨_,rfl⟩
     rw[←hp] at w9
     refine hW.vc [(4,[10,13],tkN [0,1,2,3,4,5,6,7] (alN [8,9,10] (tkN [11,12] (alS 13 .done)))),(10,[18],tkN [0,1,2,3,4,5,6,7,8,9,10,11,12,13,14,15,16,17] (alS 18 .done)),(11,[14],tkN [0,1,2,3,4,5,6,7,8,9,10,11,12,13] (alS 14 .done)),(17,[18],tkN [0,1,2,3,4,5,6,7,8,9,10,11,12,13,14,15,16,17] (alS 18 .done)),(18,[14],tkN [0,1,2,3,4,5,6,7,8,9,10,11,12,13] (alS 14 .done))] _ _ ?_
     simp[-List.getD_eq_getElem?_getD,zO,zu,zY,SC.pv,zAj,w1,w2,w3,w5,w7,w8,w9]
     have hB2:B*V+V≤cs'.length:=by omega
     have hcp:i < B*V→nth (shU cs' V (A*V) i) p=nth cs' p:=fun h=>by rw[zCe r1 (by omega) (by omega),if_neg (by omega),if_neg (by omega)]
     have hce:∀q,q < cs'.length→(.agg [.int .i64 (nth (nth cs' q).A 0).I,.int .i64 (nth (nth cs' q).A 1).I]:PV)=nth cs' q:=fun q hq=>by
      obtain⟨r,l,e,_⟩:=g2.c _ (yR hq)
      rw[e];rfl
     rw[i2,j1]
     refine⟨fun h=>⟨by decide +kernel,?_⟩,fun h=>⟨by decide +kernel,⟨by omega,by omega,by omega,by omega⟩,⟨m - 1,upS ⟨V,h',x',y',look',top',bot',sx',sy',tit',cs',hist'⟩ A B true,⟨?_,by omega⟩,by omega,zRc g2 (by omega) (by omega) (by show(B:Int)≤h' - 1;omega),rfl,rfl,?_⟩,by omega⟩⟩
     ·have h:i < B*V:=by omega
      have e:=zNQ (cs:=cs') (w:=V) r1 (by omega)
      rw[←hp,hcp h] at e
      rw[hcp h,hce p (by omega)]
      exact⟨by omega,fun _ _ _ _=>⟨by omega,⟨i+1,⟨e,by omega⟩,by omega,by omega⟩,by omega⟩⟩
     ·have ei:i=B*V:=by omega
      have e:zB6 (shU cs' V (A*V) i) ((B*V:Nat):Int).toNat ((B*V+V:Nat):Int).toNat=upC cs' V A B:=by
       rw[Int.toNat_natCast,Int.toNat_natCast,←m4,ei]
       exact zNK gn (by omega) (by omega)
      rw[hU,e]
      and_intros<;>rfl
     ·obtain⟨q,rfl⟩:∃q,m=q+1:=⟨m - 1,by omega⟩
      rw[g5];rfl
   ·obtain⟨HH,hHH⟩:∃HH,HH=hist':=⟨_,rfl⟩
    have hU:upS ⟨V,h',x',y',look',top',bot',sx',sy',tit',cs',hist'⟩ A B true=⟨V,h',x',y',look',top',bot',sx',sy',tit',upC cs' V A B,HH⟩:=by
     simp only[upS,Int.toNat_natCast]
     rw[if_neg (fun q=>ha (by omega)),hHH]
    rw[←hHH]
    refine hW.loopS _ _ _ [.bx 0 [.int .i64,.int .i64,.int .i64,.int .i64,.int .i64,.int .i64,.int .i64,.int .i64,.int .i64,.str,.list (.agg [.int .i64,.int .i64]),.list .str],.sl 9 .dp (.int .i64)] (fun ys=>∃i:Nat,ys=[SC.pv ⟨V,h',x',y',look',top',bot',sx',sy',tit',shU cs' V (A*V) i,HH⟩,.int .i64 i]∧A*V≤i∧i≤B*V) (fun ys=>B*V - (nth ys 1).I.toNat) ?_ ?_
    ·simp[-List.getD_eq_getElem?_getD,zO,zu,zY,SC.pv]
     exact⟨A*V,⟨zNP.symm,by simp⟩,Nat.le_refl _,m2⟩
    ·rintro ys ⟨i,rfl,r1,r2⟩
     have l1:=zDZ (cs:=cs') (w:=V) r1 (by omega)
     have w8:IntKind.i64.wrap ((i:Int)+1)=i+1:=zC (by omega)
     have w9:IntKind.i64.wrap ((i:Int)+V)=((i+V:Nat):Int):=by rw[zC (by omega)];simp
     obtain⟨p,hp⟩:∃p,p=i+V:=⟨_,rfl⟩
     rw[←hp] at w9
     refine hW.vc [(4,[10,13],tkN [0,1,2,3,4,5,6,7] (alN [8,9,10] (tkN [11,12] (alS 13 .done)))),(10,[18],tkN [0,1,2,3,4,5,6,7,8,9,10,11,12,13,14,15,16,17] (alS 18 .done)),(11,[14],tkN [0,1,2,3,4,5,6,7,8,9,10,11,12,13] (alS 14 .done)),(17,[18],tkN [0,1,2,3,4,5,6,7,8,9,10,11,12,13,14,15,16,17] (alS 18 .done)),(18,[14],tkN [0,1,2,3,4,5,6,7,8,9,10,11,12,13] (alS 14 .done))] _ _ ?_
     simp[-List.getD_eq_getElem?_getD,zO,zu,zY,SC.pv,zAj,w1,w2,w3,w5,w7,w8,w9]
     have hB2:B*V+V≤cs'.length:=by omega
     have hcp:i < B*V→nth (shU cs' V (A*V) i) p=nth cs' p:=fun h=>by rw[zCe r1 (by omega) (by omega),if_neg (by omega),if_neg (by omega)]
     have hce:∀q,q < cs'.length→(.agg [.int .i64 (nth (nth cs' q).A 0).I,.int .i64 (nth (nth cs' q).A 1).I]:PV)=nth cs' q:=fun q hq=>by
      obtain⟨r,l,e,_⟩:=g2.c _ (yR hq)
      rw[e];rfl
     rw[i2,j1]
     refine⟨fun h=>⟨by decide +kernel,?_⟩,fun h=>⟨by decide +kernel,⟨by omega,by omega,by omega,by omega⟩,⟨m - 1,upS ⟨V,h',x',y',look',top',bot',sx',sy',tit',cs',hist'⟩ A B true,⟨?_,by omega⟩,by omega,zRc g2 (by omega) (by omega) (by show(B:Int)≤h' - 1;omega),rfl,rfl,?_⟩,by omega⟩⟩
     ·have h:i < B*V:=by omega
      have e:=zNQ (cs:=cs') (w:=V) r1 (by omega)
      rw[←hp,hcp h] at e
      rw[hcp h,hce p (by omega)]
      exact⟨by omega,fun _ _ _ _=>⟨by omega,⟨i+1,⟨e,by omega⟩,by omega,by omega⟩,by omega⟩⟩
     ·have ei:i=B*V:=by omega
      have e:zB6 (shU cs' V (A*V) i) ((B*V:Nat):Int).toNat ((B*V+V:Nat):Int).toNat=upC cs' V A B:=by
       rw[Int.toNat_natCast,Int.toNat_natCast,←m4,ei]
       exact zNK gn (by omega) (by omega)
      rw[hU,e]
      and_intros<;>rfl
     ·obtain⟨q,rfl⟩:∃q,m=q+1:=⟨m - 1,by omega⟩
      rw[g5];rfl
   ·have em:m=0:=by omega
    subst em
    refine hW.loopS _ _ _ [.sl 3 .dp (.int .i64)] (fun ys=>ys=[.int .i64 0]) (fun ys=>0) ?_ ?_
    ·simp[-List.getD_eq_getElem?_getD,zO,zu,zY,SC.pv]
    ·rintro ys rfl
     refine hW.vc [] _ _ ?_
     simp[-List.getD_eq_getElem?_getD,zO,zu,zY,SC.pv,hif,hsc,←hF,g5,upN]
 ·rw[if_neg hk] at hF
  have hif:∀(d:Decidable (0≤k)) (X Y:SC),@ite SC (0≤k) d X Y=Y:=fun d X Y=>if_neg hk
  refine hW.loopS _ _ _ [.sl 3 .dp (.int .i64)] (fun ys=>ys=[.int .i64 k]) (fun ys=>0) ?_ ?_
  ·simp[-List.getD_eq_getElem?_getD,zO,zu,zY,SC.pv]
  rintro _ rfl
  refine hW.vc [] _ _ ?_
  simp[-List.getD_eq_getElem?_getD,zO,zu,zY,SC.pv]
  refine⟨by omega,fun _=>?_⟩
  refine hW.loopS _ _ _ [.bx 0 [.int .i64,.int .i64,.int .i64,.int .i64,.int .i64,.int .i64,.int .i64,.int .i64,.int .i64,.str,.list (.agg [.int .i64,.int .i64]),.list .str],.sl 3 .dp (.int .i64)] (fun ys=>∃(m:Nat) (s:SC),ys=[s.pv,.int .i64 (-(m:Int))]∧m≤100∧ScI s∧s.w=V∧s.h=h∧F=dnN A B m s) (fun ys=>(-(nth ys 1).I).toNat) ?_ ?_
  ·simp[-List.getD_eq_getElem?_getD,zO,zu,zY,SC.pv]
   refine⟨(-k).toNat,S0,⟨?_,by omega⟩,by omega,hS,hw0,hh0,hF⟩
   rw[hS0];and_intros<;>rfl
  ·rintro ys ⟨m,s,rfl,g1,g2,g3,g4,g5⟩
   have w7:IntKind.i64.wrap (-(m:Int)+1)=-(m:Int)+1:=zC (by omega)
   have gn:=g2.nn
   obtain⟨w',h',x',y',look',top',bot',sx',sy',tit',cs',hist'⟩:=s
   simp only at g3 g4 gn
   subst g3 g4
   simp only[Int.toNat_natCast] at gn
   have w10:IntKind.i64.wrap (((B:Int)+1)*V - 1)=((B:Int)+1)*V - 1:=zC (by omega)
   refine hW.vc [(4,[10,13],tkN [0,1,2,3,4,5,6,7] (alN [8,9,10] (tkN [11,12] (alS 13 .done)))),(10,[18],tkN [0,1,2,3,4,5,6,7,8,9,10,11,12,13,14,15,16,17] (alS 18 .done)),(11,[14],tkN [0,1,2,3,4,5,6,7,8,9,10,11,12,13] (alS 14 .done)),(17,[18],tkN [0,1,2,3,4,5,6,7,8,9,10,11,12,13,14,15,16,17] (alS 18 .done)),(18,[14],tkN [0,1,2,3,4,5,6,7,8,9,10,11,12,13] (alS 14 .done))] _ _ ?_
   simp[-List.getD_eq_getElem?_getD,zO,zu,zY,SC.pv,hif,hsc,←hF,w1,w2,w3,w4,w5,w6,w7,w10]
   have hB2:B*V+V≤cs'.length:=by omega
   refine⟨fun hm=>?_,fun hm=>?_⟩
   ·refine hW.loopS _ _ _ [.bx 0 [.int .i64,.int .i64,.int .i64,.int .i64,.int .i64,.int .i64,.int .i64,.int .i64,.int .i64,.str,.list (.agg [.int .i64,.int .i64]),.list .str],.sl 10 .dp (.int .i64)] (fun ys=>∃j:Nat,ys=[SC.pv ⟨V,h',x',y',look',top',bot',sx',sy',tit',shD cs' V (B*V+V) j,hist'⟩,.int .i64 ((j:Int) - 1)]∧A*V+V≤j∧j≤B*V+V) (fun ys=>((nth ys 1).I+1).toNat) ?_ ?_
    ·simp[-List.getD_eq_getElem?_getD,zO,zu,zY,SC.pv]
     refine⟨B*V+V,⟨zSD.symm,?_⟩,by omega,by omega⟩
     rw[j1]
    ·rintro ys ⟨j,rfl,r1,r2⟩
     have l1:=zFd (cs:=cs') (w:=V) (hi:=B*V+V) r2 hB2
     have w8:IntKind.i64.wrap ((j:Int) - 1 - 1)=j - 1 - 1:=zC (by omega)
     have w9:IntKind.i64.wrap ((j:Int) - 1 - V)=j - 1 - V:=zC (by omega)
     refine hW.vc [(4,[10,13],tkN [0,1,2,3,4,5,6,7] (alN [8,9,10] (tkN [11,12] (alS 13 .done)))),(10,[18],tkN [0,1,2,3,4,5,6,7,8,9,10,11,12,13,14,15,16,17] (alS 18 .done)),(11,[14],tkN [0,1,2,3,4,5,6,7,8,9,10,11,12,13] (alS 14 .done)),(17,[18],tkN [0,1,2,3,4,5,6,7,8,9,10,11,12,13,14,15,16,17] (alS 18 .done)),(18,[14],tkN [0,1,2,3,4,5,6,7,8,9,10,11,12,13] (alS 14 .done))] _ _ ?_
     simp[-List.getD_eq_getElem?_getD,zO,zu,zY,SC.pv,zAj,w1,w4,w6,w7,w8,w9]
     have hce:∀q,q < cs'.length→(.agg [.int .i64 (nth (nth cs' q).A 0).I,.int .i64 (nth (nth cs' q).A 1).I]:PV)=nth cs' q:=fun q hq=>by
      obtain⟨r,l,e,_⟩:=g2.c _ (yR hq)
      rw[e];rfl
     rw[j2,i1]
     refine⟨fun h=>⟨by decide +kernel,⟨by omega,by omega⟩,by omega,fun _ _ _ _=>⟨⟨by omega,by omega⟩,by omega,⟨j - 1,⟨?_,by omega⟩,by omega,by omega⟩,by omega⟩⟩,fun h=>⟨by decide +kernel,⟨by omega,by omega,by omega,by omega⟩,⟨m - 1,dnS ⟨V,h',x',y',look',top',bot',sx',sy',tit',cs',hist'⟩ A B,⟨?_,by omega⟩,by omega,dn_I g2 (by omega) (by omega) (by show(B:Int)≤h' - 1;omega),rfl,rfl,?_⟩,by omega⟩⟩
     ·obtain⟨q,rfl⟩:∃q,j=q+1:=⟨j - 1,by omega⟩
      have e:=zSE (cs:=cs') (w:=V) (hi:=B*V+V) (j:=q) (by omega) (by omega) (by omega)
      have hcp:nth (shD cs' V (B*V+V) (q+1)) (q - V)=nth cs' (q - V):=by rw[zEZ (by omega) (by omega) (by omega) (by omega),if_pos (by omega)]
      rw[hcp] at e
      rw[Nat.add_sub_cancel,hcp,hce _ (by omega),e]
     ·have ej:j=A*V+V:=by omega
      have e:zB6 (shD cs' V (B*V+V) j) ((A*V:Nat):Int).toNat ((A*V+V:Nat):Int).toNat=dnC cs' V A B:=by
       rw[Int.toNat_natCast,Int.toNat_natCast,ej,←m5,←m4]
       exact zSg gn (by omega) (by omega)
      rw[e]
      and_intros<;>rfl
     ·obtain⟨q,rfl⟩:∃q,m=q+1:=⟨m - 1,by omega⟩
      rw[g5];rfl
   ·subst hm
    have e:F=⟨V,h',x',y',look',top',bot',sx',sy',tit',cs',hist'⟩:=g5
    rw[e]
    and_intros<;>rfl
end
section
variable [zZ]
def zC9:zS:=⟨[(.bx,.box [.int .i64,.int .i64,.int .i64,.int .i64,.int .i64,.int .i64,.int .i64,.int .i64,.int .i64,.str,.list (.agg [.int .i64,.int .i64]),.list .str])],[],true,fun ps=>ScI (zAj (nth ps 0).A),fun _=>[],fun ps=>[SC.pv (dwn (zAj (nth ps 0).A))]⟩
theorem zHY:yQ Tryz.prog 84 zC9:=by
 refine zf [0] [] (zA (cs:=[]) zFI (zI (zF []))) zc Tryz.func84 rfl (by decide) rfl (by decide) rfl ?_
 intro ps hT hpre W hW
 simp only[zC9,TyA,Ty,Tys] at hT hpre
 obtain⟨_,_,rfl,⟨_,rfl,_,_,rfl,⟨w,rfl,hw⟩,_,_,rfl,⟨h,rfl,hh⟩,_,_,rfl,⟨x,rfl,hx⟩,_,_,rfl,⟨y,rfl,hy⟩,_,_,rfl,⟨look,rfl,hlook⟩,_,_,rfl,⟨top,rfl,htop⟩,_,_,rfl,⟨bot,rfl,hbot⟩,_,_,rfl,⟨sx,rfl,hsx⟩,_,_,rfl,⟨sy,rfl,hsy⟩,_,_,rfl,⟨tit,rfl,htit⟩,_,_,rfl,⟨cs,rfl,hcs,tcs⟩,_,_,rfl,⟨hist,rfl,hhist,thist⟩,rfl⟩,rfl⟩:=hT
 simp only[zE,zBR] at hpre
 obtain⟨S0,hS0⟩:∃S0:SC,S0=⟨w,h,x,y,look,top,bot,sx,sy,tit,cs,hist⟩:=⟨_,rfl⟩
 have hS:ScI S0:=by rw[hS0];exact hpre
 have hsc:zAj [.int .i64 w,.int .i64 h,.int .i64 x,.int .i64 y,.int .i64 look,.int .i64 top,.int .i64 bot,.int .i64 sx,.int .i64 sy,.str tit,.list cs,.list hist]=S0:=by rw[hS0];rfl
 refine hW.vc [(0,[],tkN [0,1,2,3,4,5,6,7,8,9,10] .done),(1,[11],tkN [0,1,2,3,4,5,6,7,8,9,10] (alS 11 .done)),(2,[17],tkN [0,1,2,3,4,5,6,7,8,9,10,11,12,13,14,15,16] (alS 17 .done))] _ _ ?_
 simp[-List.getD_eq_getElem?_getD,zC9,zO,SC.pv,hsc]
 have hw:=hS.w;have hh:=hS.h;have hy:=hS.y;have hb:=hS.b;have ht:=hS.t
 have ey:S0.y=y:=by rw[hS0]
 have eh:S0.h=h:=by rw[hS0]
 have eb:S0.bot=bot:=by rw[hS0]
 have et:S0.top=top:=by rw[hS0]
 rw[ey,eh] at hy;rw[eb,et,eh] at hb;rw[et] at ht;rw[eh] at hh
 rw[zC (n:=y+1) (by omega),zC (n:=h - 1) (by omega)]
 refine⟨by decide +kernel,fun q=>⟨by decide +kernel,⟨hS,by omega,by omega,by omega⟩,?_⟩,fun q=>⟨by decide +kernel,?_⟩⟩
 ·have e:dwn S0=upN top bot true 1 S0:=by rw[dwn,if_pos (by omega),et,eb];rfl
  rw[e];and_intros<;>first | rfl | trivial
 ·have e:dwn S0={ S0 with y:=if y+1 < h - 1 then y+1 else h - 1 }:=by
   rw[dwn,if_neg (by omega),yp,eh,ey];congr 1
   split<;>split<;>omega
  rw[e,hS0];and_intros<;>first | rfl | trivial
def zKf:zS:=⟨[(.bx,.box [.int .i64,.int .i64,.int .i64,.int .i64,.int .i64,.int .i64,.int .i64,.int .i64,.int .i64,.str,.list (.agg [.int .i64,.int .i64]),.list .str])],[],true,fun ps=>ScI (zAj (nth ps 0).A),fun _=>[],fun ps=>[SC.pv (upw (zAj (nth ps 0).A))]⟩
theorem zSY:yQ Tryz.prog 85 zKf:=by
 refine zf [0] [] (zA (cs:=[]) zFI (zI (zF []))) zc Tryz.func85 rfl (by decide) rfl (by decide) rfl ?_
 intro ps hT hpre W hW
 simp only[zKf,TyA,Ty,Tys] at hT hpre
 obtain⟨_,_,rfl,⟨_,rfl,_,_,rfl,⟨w,rfl,hw⟩,_,_,rfl,⟨h,rfl,hh⟩,_,_,rfl,⟨x,rfl,hx⟩,_,_,rfl,⟨y,rfl,hy⟩,_,_,rfl,⟨look,rfl,hlook⟩,_,_,rfl,⟨top,rfl,htop⟩,_,_,rfl,⟨bot,rfl,hbot⟩,_,_,rfl,⟨sx,rfl,hsx⟩,_,_,rfl,⟨sy,rfl,hsy⟩,_,_,rfl,⟨tit,rfl,htit⟩,_,_,rfl,⟨cs,rfl,hcs,tcs⟩,_,_,rfl,⟨hist,rfl,hhist,thist⟩,rfl⟩,rfl⟩:=hT
 simp only[zE,zBR] at hpre
 obtain⟨S0,hS0⟩:∃S0:SC,S0=⟨w,h,x,y,look,top,bot,sx,sy,tit,cs,hist⟩:=⟨_,rfl⟩
 have hS:ScI S0:=by rw[hS0];exact hpre
 have hsc:zAj [.int .i64 w,.int .i64 h,.int .i64 x,.int .i64 y,.int .i64 look,.int .i64 top,.int .i64 bot,.int .i64 sx,.int .i64 sy,.str tit,.list cs,.list hist]=S0:=by rw[hS0];rfl
 refine hW.vc [(0,[],tkN [0,1,2,3,4,5,6,7,8,9,10] .done),(1,[11],tkN [0,1,2,3,4,5,6,7,8,9,10] (alS 11 .done))] _ _ ?_
 simp[-List.getD_eq_getElem?_getD,zKf,zO,SC.pv,hsc]
 have hw:=hS.w;have hh:=hS.h;have hy:=hS.y;have hb:=hS.b;have ht:=hS.t
 have ey:S0.y=y:=by rw[hS0]
 have eh:S0.h=h:=by rw[hS0]
 have eb:S0.bot=bot:=by rw[hS0]
 have et:S0.top=top:=by rw[hS0]
 rw[ey,eh] at hy;rw[eb,et,eh] at hb;rw[et] at ht;rw[eh] at hh
 rw[zC (n:=y - 1) (by omega)]
 refine⟨by decide +kernel,fun q=>⟨by decide +kernel,⟨hS,by omega,by omega,by omega⟩,?_⟩,fun q=>?_⟩
 ·have e:upw S0=dnN top bot 1 S0:=by rw[upw,if_pos (by omega),et,eb];rfl
  rw[e];and_intros<;>first | rfl | trivial
 ·have e:upw S0={ S0 with y:=if 0 < y - 1 then y - 1 else 0 }:=by
   rw[upw,if_neg (by omega),zCI,ey]
  rw[e,hS0];and_intros<;>first | rfl | trivial
theorem zOx{D:SC}(h:ScI D)(hx:D.x < D.w):IntKind.i64.wrap (IntKind.i64.wrap (D.y*D.w)+D.x)=D.y*D.w+D.x∧0≤D.y*D.w+D.x∧D.y*D.w+D.x < D.cs.length∧IntKind.i64.wrap (D.x+1)=D.x+1:=by
 have w:=h.w;have hh:=h.h;have x:=h.x;have y:=h.y;have n:=h.nn
 have p0:0≤D.y*D.w:=Int.mul_nonneg (by omega) (by omega)
 have p1:(D.y+1)*D.w≤D.h*D.w:=Int.mul_le_mul_of_nonneg_right (by omega) (by omega)
 have p2:(D.y+1)*D.w=D.y*D.w+D.w:=by rw[Int.add_mul,Int.one_mul]
 have p3:D.h*D.w≤10*24:=Int.mul_le_mul (by omega) (by omega) (by omega) (by omega)
 have p4:((D.h.toNat*D.w.toNat:Nat):Int)=D.h*D.w:=by rw[Int.natCast_mul,Int.toNat_of_nonneg (by omega),Int.toNat_of_nonneg (by omega)]
 rw[zC (n:=D.y*D.w) (by omega),zC (n:=D.y*D.w+D.x) (by omega),zC (n:=D.x+1) (by omega)]
 exact⟨rfl,by omega,by omega,rfl⟩
def zEL:zS:=⟨[(.bx,.box [.int .i64,.int .i64,.int .i64,.int .i64,.int .i64,.int .i64,.int .i64,.int .i64,.int .i64,.str,.list (.agg [.int .i64,.int .i64]),.list .str]),(.rd,.int .i64)],[],true,fun ps=>ScI (zAj (nth ps 0).A),fun _=>[],fun ps=>[SC.pv (prt (zAj (nth ps 0).A) (nth ps 1).I)]⟩
theorem zMO:yQ Tryz.prog 66 zEL:=by
 refine zf [0,1] [] (zA (cs:=[]) zHY (zI (zF []))) zc Tryz.func66 rfl (by decide) rfl (by decide) rfl ?_
 intro ps hT hpre W hW
 simp only[zEL,TyA,Ty,Tys] at hT hpre
 obtain⟨_,_,rfl,⟨_,rfl,_,_,rfl,⟨w,rfl,hw⟩,_,_,rfl,⟨h,rfl,hh⟩,_,_,rfl,⟨x,rfl,hx⟩,_,_,rfl,⟨y,rfl,hy⟩,_,_,rfl,⟨look,rfl,hlook⟩,_,_,rfl,⟨top,rfl,htop⟩,_,_,rfl,⟨bot,rfl,hbot⟩,_,_,rfl,⟨sx,rfl,hsx⟩,_,_,rfl,⟨sy,rfl,hsy⟩,_,_,rfl,⟨tit,rfl,htit⟩,_,_,rfl,⟨cs,rfl,hcs,tcs⟩,_,_,rfl,⟨hist,rfl,hhist,thist⟩,rfl⟩,_,_,rfl,⟨r,rfl,hr⟩,rfl⟩:=hT
 simp only[zE,zBR] at hpre
 obtain⟨S0,hS0⟩:∃S0:SC,S0=⟨w,h,x,y,look,top,bot,sx,sy,tit,cs,hist⟩:=⟨_,rfl⟩
 have hS:ScI S0:=by rw[hS0];exact hpre
 have hsc:zAj [.int .i64 w,.int .i64 h,.int .i64 x,.int .i64 y,.int .i64 look,.int .i64 top,.int .i64 bot,.int .i64 sx,.int .i64 sy,.str tit,.list cs,.list hist]=S0:=by rw[hS0];rfl
 obtain⟨S1,hS1⟩:∃S1:SC,S1={ S0 with x:=0 }:=⟨_,rfl⟩
 have hsc1:zAj [.int .i64 w,.int .i64 h,.int .i64 0,.int .i64 y,.int .i64 look,.int .i64 top,.int .i64 bot,.int .i64 sx,.int .i64 sy,.str tit,.list cs,.list hist]=S1:=by rw[hS1,hS0];rfl
 have hw:=hS.w
 have hxx:=hS.x
 have h1:ScI S1:=by rw[hS1];exact hS.go (x:=0) (y:=S0.y) (by omega) hS.y
 obtain⟨D,hD⟩:∃D,D=dwn S1:=⟨_,rfl⟩
 have hDI:ScI D:=by rw[hD];exact zIa h1
 have hDw:=zKY S1
 have hDx:D.x < D.w:=by rw[hD,hDw.1,hDw.2.1,hS1];show(0:Int) < S0.w;omega
 obtain⟨d1,d2,d3,d4⟩:=zOx hDI hDx
 have ex:S0.x=x:=by rw[hS0]
 have ew:S0.w=w:=by rw[hS0]
 refine hW.vc [(0,[],tkN [0,1,2,3,4,5,6,7,8,9,10] .done),(3,[30],tkN [0,1,2,3,4,5,6,7,8,9,10,11,12,13,14,15,16,17,18,19,20,21,22,23,24,25,26,27,28,29] (alS 30 .done))] _ _ ?_
 simp[-List.getD_eq_getElem?_getD,zEL,zC9,SC.pv,hsc,hsc1,←hD,d1,d4]
 refine⟨by decide +kernel,fun q=>⟨h1,by decide +kernel,⟨d2,d3⟩,by omega,?_⟩,fun q=>?_⟩
 ·have e:zGc S0=D:=by rw[zGc,if_pos (by omega),hD,hS1]
  have e2:prt S0 r={ D with cs:=D.cs.set (D.y*D.w+D.x).toNat (cel r D.look),x:=D.x+1 }:=by rw[prt,e]
  rw[e2];and_intros<;>first | rfl | trivial
 ·have hx2:S0.x < S0.w:=by omega
  obtain⟨f1,f2,f3,f4⟩:=zOx hS hx2
  have e:zGc S0=S0:=by rw[zGc,if_neg (by omega)]
  have e2:prt S0 r={ S0 with cs:=S0.cs.set (S0.y*S0.w+S0.x).toNat (cel r S0.look),x:=S0.x+1 }:=by rw[prt,e]
  rw[e2]
  rw[hS0] at f1 f2 f3 f4 ⊢
  simp only at f1 f2 f3 f4 ⊢
  rw[f1,f4]
  refine⟨by decide +kernel,⟨f2,f3⟩,by omega,?_⟩
  and_intros<;>first | rfl | trivial
def zCU:zS:=⟨[(.bx,.box [.int .i64,.int .i64,.int .i64,.int .i64,.int .i64,.int .i64,.int .i64,.int .i64,.int .i64,.str,.list (.agg [.int .i64,.int .i64]),.list .str]),(.rd,.int .i64)],[],true,fun ps=>ScI (zAj (nth ps 0).A),fun _=>[],fun ps=>[SC.pv (ctl (zAj (nth ps 0).A) (nth ps 1).I)]⟩
theorem zJH:yQ Tryz.prog 67 zCU:=by
 refine zf [0,1,4] [] (zA (cs:=[]) zHY (zI (zF []))) zc Tryz.func67 rfl (by decide) rfl (by decide) rfl ?_
 intro ps hT hpre W hW
 simp only[zCU,TyA,Ty,Tys] at hT hpre
 obtain⟨_,_,rfl,⟨_,rfl,_,_,rfl,⟨w,rfl,hw⟩,_,_,rfl,⟨h,rfl,hh⟩,_,_,rfl,⟨x,rfl,hx⟩,_,_,rfl,⟨y,rfl,hy⟩,_,_,rfl,⟨look,rfl,hlook⟩,_,_,rfl,⟨top,rfl,htop⟩,_,_,rfl,⟨bot,rfl,hbot⟩,_,_,rfl,⟨sx,rfl,hsx⟩,_,_,rfl,⟨sy,rfl,hsy⟩,_,_,rfl,⟨tit,rfl,htit⟩,_,_,rfl,⟨cs,rfl,hcs,tcs⟩,_,_,rfl,⟨hist,rfl,hhist,thist⟩,rfl⟩,_,_,rfl,⟨b,rfl,hb⟩,rfl⟩:=hT
 simp only[zE,zBR] at hpre
 obtain⟨S0,hS0⟩:∃S0:SC,S0=⟨w,h,x,y,look,top,bot,sx,sy,tit,cs,hist⟩:=⟨_,rfl⟩
 have hS:ScI S0:=by rw[hS0];exact hpre
 have hsc:zAj [.int .i64 w,.int .i64 h,.int .i64 x,.int .i64 y,.int .i64 look,.int .i64 top,.int .i64 bot,.int .i64 sx,.int .i64 sy,.str tit,.list cs,.list hist]=S0:=by rw[hS0];rfl
 refine hW.vc [(2,[18],tkN [0,1,2,3,4,5,6,7,8,9,10,11,12,13,14,15,16,17] (alS 18 .done)),(4,[19],tkN [0,1,2,3,4,5,6,7,8,9,10,11,12,13,14,15,16,17,18] (alS 19 .done))] _ _ ?_
 simp[-List.getD_eq_getElem?_getD,zCU,zC9,SC.pv,hsc]
 have hw:=hS.w;have hx:=hS.x
 have ex:S0.x=x:=by rw[hS0]
 have ew:S0.w=w:=by rw[hS0]
 rw[ex,ew] at hx;rw[ew] at hw
 have w1:IntKind.i64.wrap (w - 1)=w - 1:=zC (by omega)
 have hd:x.tdiv 8=x / 8:=Int.tdiv_eq_ediv_of_nonneg hx.1
 have d1:0≤x / 8∧x / 8≤3:=by omega
 rw[w1,hd,zC (n:=x / 8) (by omega),zC (n:=x / 8+1) (by omega),zC (n:=(x / 8+1)*8) (by omega)]
 refine⟨fun q=>⟨by decide +kernel,?_⟩,fun q=>⟨fun q1=>⟨by decide +kernel,?_⟩,fun q1=>⟨fun q2=>⟨hS,?_⟩,fun q2=>⟨fun q3=>?_,fun q3=>?_⟩⟩⟩⟩
 ·have m1:(if w - 1 < x then w - 1 else x)=yp x (w - 1):=by unfold yp;split<;>split<;>omega
  have m2:=zAE (a:=x) (b:=w - 1)
  rw[m1,zC (n:=yp x (w - 1) - 1) (by omega)]
  have e:ctl S0 b={ S0 with x:=if 0 < yp x (w - 1) - 1 then yp x (w - 1) - 1 else 0 }:=by rw[ctl,if_pos q,ex,ew,zCI]
  rw[e,hS0];and_intros<;>first | rfl | trivial
 ·have e:ctl S0 b={ S0 with x:=if (x / 8+1)*8 < w - 1 then (x / 8+1)*8 else w - 1 }:=by
   rw[ctl,if_neg q,if_pos q1,ex,ew,yp];congr 1
   split<;>split<;>omega
  rw[e,hS0];and_intros<;>first | rfl | trivial
 ·have e:ctl S0 b=dwn S0:=by rw[ctl,if_neg q,if_neg q1,if_pos q2]
  rw[e];and_intros<;>first | rfl | trivial
 ·have e:ctl S0 b={ S0 with x:=0 }:=by rw[ctl,if_neg q,if_neg q1,if_neg q2,if_pos q3]
  rw[e,hS0];and_intros<;>first | rfl | trivial
 ·have e:ctl S0 b=S0:=by rw[ctl,if_neg q,if_neg q1,if_neg q2,if_neg q3]
  rw[e,hS0];and_intros<;>first | rfl | trivial
def zC8:zS:=⟨[(.bx,.box [.int .i64,.int .i64,.int .i64,.int .i64,.int .i64,.int .i64,.int .i64,.int .i64,.int .i64,.str,.list (.agg [.int .i64,.int .i64]),.list .str]),(.rd,.int .i64)],[],true,fun ps=>ScI (zAj (nth ps 0).A),fun _=>[],fun ps=>[SC.pv (esc (zAj (nth ps 0).A) (nth ps 1).I)]⟩
theorem zK2:yQ Tryz.prog 68 zC8:=by
 refine zf [0,1,4,5] [] (zA (cs:=[]) zKI (zA (cs:=[]) zSY (zA (cs:=[]) zHY (zI (zF []))))) zc Tryz.func68 rfl (by decide) rfl (by decide) rfl ?_
 intro ps hT hpre W hW
 simp only[zC8,TyA,Ty,Tys] at hT hpre
 obtain⟨_,_,rfl,⟨_,rfl,_,_,rfl,⟨w,rfl,hw⟩,_,_,rfl,⟨h,rfl,hh⟩,_,_,rfl,⟨x,rfl,hx⟩,_,_,rfl,⟨y,rfl,hy⟩,_,_,rfl,⟨look,rfl,hlook⟩,_,_,rfl,⟨top,rfl,htop⟩,_,_,rfl,⟨bot,rfl,hbot⟩,_,_,rfl,⟨sx,rfl,hsx⟩,_,_,rfl,⟨sy,rfl,hsy⟩,_,_,rfl,⟨tit,rfl,htit⟩,_,_,rfl,⟨cs,rfl,hcs,tcs⟩,_,_,rfl,⟨hist,rfl,hhist,thist⟩,rfl⟩,_,_,rfl,⟨b,rfl,hb⟩,rfl⟩:=hT
 simp only[zE,zBR] at hpre
 obtain⟨S0,hS0⟩:∃S0:SC,S0=⟨w,h,x,y,look,top,bot,sx,sy,tit,cs,hist⟩:=⟨_,rfl⟩
 have hS:ScI S0:=by rw[hS0];exact hpre
 have hsc:zAj [.int .i64 w,.int .i64 h,.int .i64 x,.int .i64 y,.int .i64 look,.int .i64 top,.int .i64 bot,.int .i64 sx,.int .i64 sy,.str tit,.list cs,.list hist]=S0:=by rw[hS0];rfl
 refine hW.vc [(16,[14],tkN [0,1,2,3,4,5,6,7,8,9,10] (alS 11 (tkN [12,13] (alS 14 .done))))] _ _ ?_
 obtain⟨S1,hS1⟩:∃S1:SC,S1={ S0 with x:=0 }:=⟨_,rfl⟩
 have hsc1:zAj [.int .i64 w,.int .i64 h,.int .i64 0,.int .i64 y,.int .i64 look,.int .i64 top,.int .i64 bot,.int .i64 sx,.int .i64 sy,.str tit,.list cs,.list hist]=S1:=by rw[hS1,hS0];rfl
 have hw:=hS.w
 have hh:=hS.h
 have h1:ScI S1:=by rw[hS1];exact hS.go (x:=0) (y:=S0.y) (by omega) hS.y
 have ew:S0.w=w:=by rw[hS0]
 have eh:S0.h=h:=by rw[hS0]
 rw[ew] at hw;rw[eh] at hh
 obtain⟨R,hR⟩:∃R,R=esc S0 b:=⟨_,rfl⟩
 simp[-List.reduceReplicate,-List.getD_eq_getElem?_getD,zC8,zC9,zKf,zCV,SC.pv,hsc,hsc1,←hR]
 refine⟨fun q=>?_,fun q=>⟨fun q1=>?_,fun q1=>⟨fun q2=>⟨hS,?_⟩,fun q2=>⟨fun q3=>⟨h1,?_⟩,fun q3=>⟨fun q4=>⟨hS,?_⟩,fun q4=>⟨fun q5=>?_,fun q5=>?_⟩⟩⟩⟩⟩⟩
 ·rw[hR,esc,if_pos q,hS0];and_intros<;>first | rfl | trivial
 ·rw[hR,esc,if_neg q,if_pos q1,hS0];and_intros<;>first | rfl | trivial
 ·rw[hR,esc,if_neg q,if_neg q1,if_pos q2];and_intros<;>first | rfl | trivial
 ·have e:R=dwn S1:=by rw[hR,esc,if_neg q,if_neg q1,if_neg q2,if_pos q3,hS1]
  rw[e];and_intros<;>first | rfl | trivial
 ·rw[hR,esc,if_neg q,if_neg q1,if_neg q2,if_neg q3,if_pos q4];and_intros<;>first | rfl | trivial
 ·have e:R={ zKy S0.w S0.h with hist:=S0.hist }:=by rw[hR,esc,if_neg q,if_neg q1,if_neg q2,if_neg q3,if_neg q4,if_pos q5]
  rw[e,ew,eh]
  exact⟨by decide +kernel,⟨by omega,by omega,by omega,by omega⟩,rfl,rfl,rfl,rfl,rfl,rfl,rfl,rfl,rfl,rfl,rfl,by rw[hS0]⟩
 ·rw[hR,esc,if_neg q,if_neg q1,if_neg q2,if_neg q3,if_neg q4,if_neg q5,hS0];and_intros<;>first | rfl | trivial
def zn:zS:=⟨[(.bx,.box [.int .i64,.int .i64,.int .i64,.int .i64,.int .i64,.int .i64,.int .i64,.int .i64,.int .i64,.str,.list (.agg [.int .i64,.int .i64]),.list .str]),(.rd,.int .i64)],[],true,fun ps=>True,fun _=>[],fun ps=>[SC.pv { zAj (nth ps 0).A with look:=zKE (nth (nth ps 0).A 4).I (nth ps 1).I }]⟩
theorem zKG:yQ Tryz.prog 90 zn:=by
 refine zf [0,1,4] [] (zA (cs:=[]) zAU (zI (zF []))) zc Tryz.func90 rfl (by decide) rfl (by decide) rfl ?_
 intro ps hT hpre W hW
 simp only[zn,TyA,Ty,Tys] at hT hpre
 obtain⟨_,_,rfl,⟨_,rfl,_,_,rfl,⟨w,rfl,hw⟩,_,_,rfl,⟨h,rfl,hh⟩,_,_,rfl,⟨x,rfl,hx⟩,_,_,rfl,⟨y,rfl,hy⟩,_,_,rfl,⟨look,rfl,hlook⟩,_,_,rfl,⟨top,rfl,htop⟩,_,_,rfl,⟨bot,rfl,hbot⟩,_,_,rfl,⟨sx,rfl,hsx⟩,_,_,rfl,⟨sy,rfl,hsy⟩,_,_,rfl,⟨tit,rfl,htit⟩,_,_,rfl,⟨cs,rfl,hcs,tcs⟩,_,_,rfl,⟨hist,rfl,hhist,thist⟩,rfl⟩,_,_,rfl,⟨n,rfl,hn⟩,rfl⟩:=hT
 refine hW.vc [] _ _ ?_
 simp[-List.getD_eq_getElem?_getD,zn,zb,zJ,SC.pv,zAj]
 have w1:inB n 30 37=true→IntKind.i64.wrap (n - 29)=n - 29:=fun q=>by have:=zDp.1 q;exact zC (by omega)
 refine⟨fun q=>by rw[zKE,if_pos q],fun q=>⟨fun q1=>by rw[zKE,if_neg q,if_pos q1],fun q1=>⟨fun q2=>by rw[zKE,if_neg q,if_neg q1,if_pos q2],fun q2=>⟨fun q3=>by rw[zKE,if_neg q,if_neg q1,if_neg q2,if_pos q3],fun q3=>⟨fun q4=>by rw[w1 q4,zKE,if_neg q,if_neg q1,if_neg q2,if_neg q3,if_pos q4],fun q4=>⟨fun q5=>?_,fun q5=>?_⟩⟩⟩⟩⟩⟩
 ·rw[zKE,if_neg q,if_neg q1,if_neg q2,if_neg q3,if_neg (by simp[q4]),if_pos q5]
 ·rw[zKE,if_neg q,if_neg q1,if_neg q2,if_neg q3,if_neg (by simp[q4]),if_neg q5]
def zo:zS:=⟨[(.rd,.agg [.int .i64,.int .i64,.bool,.list (.int .i64),.str]),(.rd,.int .i64),(.rd,.int .i64)],[.int .i64],true,fun ps=>0≤(nth ps 1).I,fun ps=>[.int .i64 (yi (nth (nth ps 0).A 3).L (nth ps 1).I.toNat (nth ps 2).I)],fun _=>[]⟩
theorem zKK:yQ Tryz.prog 86 zo:=by
 refine zf [0,1,2,3,6] [.tmp 6] (zI (zF [])) zc Tryz.func86 rfl (by decide) rfl (by decide) rfl ?_
 intro ps hT hpre W hW
 simp only[zo,TyA,Ty,Tys] at hT hpre
 obtain⟨_,_,rfl,⟨_,rfl,_,_,rfl,⟨k,rfl,hk⟩,_,_,rfl,⟨n,rfl,hn⟩,_,_,rfl,⟨p,rfl⟩,_,_,rfl,⟨es,rfl,hes,tes⟩,_,_,rfl,⟨t,rfl,ht⟩,rfl⟩,_,_,rfl,⟨i,rfl,hi⟩,_,_,rfl,⟨o,rfl,ho⟩,rfl⟩:=hT
 simp only[zE,zG,yu] at hpre
 refine hW.vc [] _ _ ?_
 simp[-List.getD_eq_getElem?_getD,zo]
 refine fun _=>⟨fun q=>⟨q,hpre,q⟩,fun q=>⟨q,by omega⟩,fun _=>⟨fun q=>?_,fun q q1=>⟨⟨hpre,q⟩,by omega,fun _=>?_⟩⟩⟩
 ·rw[yi,if_pos (by omega)]
 ·rw[yi,if_neg (by omega)]
end
section
variable [zZ]
theorem zJV{w h:Int}:∀{es:List PV} {i:Nat} {p:Int},p < i→(∀e∈es,zGV e.S w=true)→(i:Int)+es.length≤h→upB w h p (yz i es)=true
 | [],_,_,_,_,_=>rfl
 | e :: es,i,p,hp,hr,hl=>by
  simp only[List.length_cons] at hl
  have ih:=zJV (es:=es) (i:=i+1) (p:=i) (h:=h) (by omega) (fun x hx=>hr x (List.mem_cons_of_mem _ hx)) (by omega)
  rw[yz,upB]
  simp only[zBR,zE,zG,yu,zE4,Bool.and_eq_true,zDp,decide_eq_true_eq]
  exact⟨⟨⟨by omega,decide_eq_true hp⟩,hr e (List.mem_cons_self ..)⟩,ih⟩
theorem zJc{w h:Int}:∀{xs ys:List PV} {i:Nat} {p:Int},p < i→(∀e∈ys,zGV e.S w=true)→(i:Int)+ys.length≤h→upB w h p (z9 i xs ys)=true
 | [],_,_,_,_,_,_=>by rw[z9];rfl;simp
 | x :: xs,[],_,_,_,_,_=>by rw[z9];rfl;simp
 | x :: xs,y :: ys,i,p,hp,hr,hl=>by
  simp only[List.length_cons] at hl
  have hr':∀e∈ys,zGV e.S w=true:=fun e he=>hr e (List.mem_cons_of_mem _ he)
  rw[z9]
  cases hq:x.S == y.S with
  | true=>exact zJc (by omega) hr' (by omega)
  | false=>
   have ih:=zJc (xs:=xs) (ys:=ys) (i:=i+1) (p:=i) (h:=h) (by omega) hr' (by omega)
   rw[cond_false,upB]
   simp only[zBR,zE,zG,yu,zE4,Bool.and_eq_true,zDp,decide_eq_true_eq]
   exact⟨⟨⟨by omega,decide_eq_true hp⟩,hr y (List.mem_cons_self ..)⟩,ih⟩
theorem zFh{es:List PV}{w h:Int}(hr:zAT es w h=true):(es.length:Int)=h∧∀e∈es,zGV e.S w=true:=by
 simpa[zAT] using hr
theorem zMh{n w h:Int}{es:List PV}(hn:0≤n∧n≤60)(hs:zAP w h=true)(hr:zAT es w h=true):zCa (VW.ls' ⟨n,0,true,w,h,yz 0 es⟩)=true∧zE0 n w h es=(⟨n,0,true,w,h,yz 0 es⟩,0):=by
 obtain⟨h1,h2⟩:=zFh hr
 have hb:w≤24∧h≤10:=by simp[zAP,inB] at hs;omega
 refine⟨?_,?_⟩
 ·have hl:=zC5 es 0
  simp only[zCa,VW.ls',zE,zG,yu,zBf,zND,zDp.2 hn,hs,zJV (es:=es) (i:=0) (p:=-1) (h:=h) (w:=w) (by omega) h2 (by omega),leB,hl,h1,zOt]
  simp
 ·rw[zE0,if_neg (by omega),if_neg (zFv (zDp.2 hn) hs),if_neg (by simp[hr])]
theorem zMu{f n w h:Int}{la bs:List PV}(hf:0≤f∧f < n∧n≤60)(hs:zAP w h=true)(ha:zAT la w h=true)(hb:zAT bs w h=true):zCa (VW.ls' ⟨n,f,false,w,h,z9 0 la bs⟩)=true∧zDW f n w h la bs=(⟨n,f,false,w,h,z9 0 la bs⟩,0):=by
 obtain⟨h1,h2⟩:=zFh hb
 obtain⟨h3,h4⟩:=zFh ha
 have hz:w≤24∧h≤10:=by simp[zAP,inB] at hs;omega
 have hl:=zC6 la bs 0
 refine⟨?_,zMv (by omega) (by omega) (zDp.2 (by omega)) hs (zDp.2 (by omega)) ha hb⟩
 have e:leB ((z9 0 la bs).length:Int) h=true:=by simp only[leB,decide_eq_true_eq];omega
 simp only[zCa,VW.ls',zE,zG,yu,zBf,zND,zDp.2 (show 0≤n∧n≤60 by omega),hs,zJc (xs:=la) (ys:=bs) (i:=0) (p:=-1) (h:=h) (w:=w) (by omega) h2 (by omega),e,zOt,zDp.2 (show 0≤f∧f≤n - 1 by omega)]
 simp
theorem zKP:∀(es:List PV) (i:Nat),(∀e∈es,∃b,e=PV.str b)→(yz i es).map (fun e=>PV.str (nth e.A 1).S)=es
 | [],_,_=>rfl
 | x :: es,i,h=>by
  obtain⟨b,rfl⟩:=h x (List.mem_cons_self ..)
  rw[yz,List.map_cons,zKP es (i+1) fun e he=>h e (List.mem_cons_of_mem _ he)];rfl
theorem zIC(out:List PV)(e:PV)(es:List PV):ye out (e :: es)=ye (zGu out e) es:=rfl
theorem zJ4:∀(xs ys p:List PV),xs.length=ys.length→(∀e∈xs,∃b,e=PV.str b)→(∀e∈ys,∃b,e=PV.str b)→ye (p++xs) (z9 p.length xs ys)=p++ys
 | [],[],p,_,_,_=>by rw[z9];rfl;simp
 | x :: xs,y :: ys,p,hl,hx,hy=>by
  obtain⟨a,rfl⟩:=hx x (List.mem_cons_self ..)
  obtain⟨b,rfl⟩:=hy y (List.mem_cons_self ..)
  simp only[List.length_cons] at hl
  have ih:=zJ4 xs ys (p++[.str b]) (by omega) (fun e he=>hx e (List.mem_cons_of_mem _ he)) fun e he=>hy e (List.mem_cons_of_mem _ he)
  rw[List.length_append,List.length_singleton,List.append_assoc,List.append_assoc] at ih
  rw[z9]
  cases hq:(PV.str a).S == (PV.str b).S with
  | true=>
   have e:a=b:=by simpa using hq
   rw[cond_true,e];exact ih
  | false=>
   rw[cond_false,zIC]
   have e:zGu (p++.str a :: xs) (.agg [.int .i64 (p.length:Nat),.str (PV.str b).S])=p++.str b :: xs:=by
    rw[zGu]
    simp only[zBR,zE,zG,yu,zE4,Int.toNat_natCast]
    rw[List.set_append_right _ _ (Nat.le_refl _),Nat.sub_self];rfl
   rw[e];exact ih
theorem zMH{n w h:Int}{es:List PV}(hn:0≤n∧n≤60)(hs:zAP w h=true)(hr:zAT es w h=true):zGd (MR.ls ⟨n,w,h,es⟩)=true:=by
 simp only[zGd,MR.ls,zE,zG,yu,zBf,if_neg (show ¬n=-1 by omega),zDp.2 hn,hs,hr,Bool.and_self]
def MR.m1:MR:=⟨-1,0,0,[]⟩
theorem zNJ{w h:Int}{la bs:List PV}(hs:zAP w h=true)(ha:zAT la w h=true)(hb:zAT bs w h=true)(sa:∀e∈la,∃b,e=PV.str b)(sb:∀e∈bs,∃b,e=PV.str b) :
  yc .m1 ⟨3,0,true,w,h,yz 0 la⟩=(⟨3,w,h,la⟩,0)∧yc ⟨3,w,h,la⟩ ⟨5,3,false,w,h,z9 0 la bs⟩=(⟨5,w,h,bs⟩,0) ∧
  yc ⟨5,w,h,bs⟩ ⟨3,0,true,w,h,yz 0 la⟩=(⟨5,w,h,bs⟩,15)∧(yc .m1 ⟨5,3,false,w,h,z9 0 la bs⟩).2=19:=by
 obtain⟨f1,f2⟩:=zMh (n:=3) (by decide) hs ha
 obtain⟨d1,d2⟩:=zMu (f:=3) (n:=5) (by decide) hs ha hb
 obtain⟨r1,r2⟩:=zFh ha
 obtain⟨r3,r4⟩:=zFh hb
 have hz:2≤w∧w≤24∧2≤h∧h≤10:=by simp[zAP,inB] at hs;omega
 have m1:zGd (MR.ls .m1)=true:=rfl
 have hu:=zJV (es:=la) (i:=0) (p:=-1) (h:=h) (w:=w) (by omega) r2 (by omega)
 refine⟨?_,?_,?_,?_⟩
 ·rw[zEQ m1 f1,zS4 (show(-1:Int) < 3 by decide) rfl,zPc hu (by rw[zC5];exact r1),zKP la 0 sa]
 ·rw[zEQ (zMH (by decide) hs ha) d1,zS2 (show(3:Int) < 5 by decide) rfl rfl rfl rfl]
  have:=zJ4 la bs [] (by omega) sa sb
  simp only[List.nil_append,List.length_nil] at this
  rw[this]
 ·rw[zEQ (zMH (by decide) hs hb) f1,zS5 (show(3:Int)≤5 by decide)]
 ·rw[zEQ m1 d1,zS3 (show(-1:Int) < 5 by decide) rfl (.inl (.inl (show(3:Int)≠-1 by decide)))]
end
end Go.Proofs.YtdmbfkooebldcaaGreatDoor
