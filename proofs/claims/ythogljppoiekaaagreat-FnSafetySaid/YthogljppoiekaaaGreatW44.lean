/-
  Part 44: contracts of functions, and the laws by which they are proved.
  Conditions: none.
-/
import Derived.Test.YthogljppoiekaaaGreatW43
set_option linter.unusedVariables false
set_option linter.unusedSimpArgs false
set_option linter.unusedSectionVars false
set_option maxRecDepth 100000
namespace Go.Proofs.YthogljppoiekaaaGreat
section
variable [zS]
def zLj:zJ:=⟨[(.bx,.box [.list (.agg [.int .i64,.int .i64,.int .i64,.int .i64,.int .i64,.bool,.list (.agg [.int .i64,.str]),.int .i64,.int .i64,.int .i64,.list (.int .i64),.list (.int .i64),.list (.int .i64)]),.list (.agg [.str,.int .i64]),.list (.agg [.int .i64,.int .i64,.int .i64,.int .i64,.int .i64,.int .i64,.int .i64,.bool,.list (.agg [.int .i64,.str])]),.list .str]),(.rd,.agg [.int .i64,.int .i64,.int .i64,.int .i64,.str])],[.int .i64],true,fun ps=>ClI (zFs (nth ps 0).A)∧inB (nth (nth ps 1).A 1).I 0 ((nth (nth ps 0).A 0).L.length - 1)=true,fun ps=>[.int .i64 (zIz (zFs (nth ps 0).A) (zDb (nth ps 1).A)).2],fun ps=>[(zIz (zFs (nth ps 0).A) (zDb (nth ps 1).A)).1.pv]⟩
set_option maxHeartbeats 2000000 in
theorem zZb:zh Tryz.prog 99 zLj:=by
 refine zP [0,1,3,4,5,6,7,8,9,10,11,37] [.tmp 4] (zA (cs:=[]) zYF (zA (cs:=[]) zVm (zA (cs:=[]) zSP (zA (cs:=[]) zUq (zA (cs:=[]) zA9 (zD (zB []))))))) mixed Tryz.func99 rfl (by decide) rfl (by decide) rfl ?_
 intro ps hT hpre W hW
 simp only[zLj,TyA,Ty,Tys] at hT hpre
 obtain⟨_,_,rfl,⟨_,rfl,_,_,rfl,⟨ns,rfl,hns,tns⟩,_,_,rfl,⟨ss,rfl,hss,tss⟩,_,_,rfl,⟨ws,rfl,hws,tws⟩,_,_,rfl,⟨ds,rfl,hds,tds⟩,rfl⟩,_,_,rfl,⟨_,rfl,_,_,rfl,⟨ak,rfl,hak⟩,_,_,rfl,⟨an,rfl,han⟩,_,_,rfl,⟨aw,rfl,haw⟩,_,_,rfl,⟨ap,rfl,hap⟩,_,_,rfl,⟨ad,rfl,had⟩,rfl⟩,rfl⟩:=hT
 simp only[zE,zF,zBE,zAA,yp] at hpre
 have hI:ClI ⟨ns,ss,ws,ds⟩:=hpre.1
 have h1:=zk.1 hpre.2
 have hlt:an.toNat < ns.length:=by omega
 have eC:zIz (zFs [PV.list ns,PV.list ss,PV.list ws,PV.list ds]) (zDb [.int .i64 ak,.int .i64 an,.int .i64 aw,.int .i64 ap,.str ad])=zIz ⟨ns,ss,ws,ds⟩ ⟨ak,an,aw,ap,ad⟩:=rfl
 have hv:=hI.vsl (i:=an.toNat) hlt
 refine hW.vc [(1,[9],tkN [0,1,2,3,4,5,6,7] (alN [8,9] .done))] _ _ ?_
 obtain⟨x,hx⟩:∃x,x=yH ns an.toNat:=⟨_,rfl⟩
 have hx':z8 (nth ns an.toNat).A=x:=hx.symm
 have hu:(nth (nth ns an.toNat).A 5).B=x.up:=by rw[hx];rfl
 have eA:zDb [.int .i64 ak,.int .i64 an,.int .i64 aw,.int .i64 ap,.str ad]=⟨ak,an,aw,ap,ad⟩:=rfl
 have hN:zIz ⟨ns,ss,ws,ds⟩ ⟨ak,an,aw,ap,ad⟩=if ak=6 then (if x.up=true then (⟨ns,ss,ws,ds⟩,9) else (⟨ns.set an.toNat (zO2 x).pv,ss,ws,ds⟩,0)) else if x.up=false then (⟨ns,ss,ws,ds⟩,13) else if ak=5 then (zPD ⟨ns,ss,ws,ds⟩ an (zKD ss an.toNat) (zQx ss an.toNat) 0,0) else if ak=1 then zCy ⟨ns,ss,ws,ds⟩ (zJY x aw) else if inB ad.length 1 400=false then (⟨ns,ss,ws,ds⟩,4) else zCy ⟨ns,ss,ws,ds⟩ (zJX x ad):=by rw[hx];rfl
 obtain⟨nt,hnt⟩:∃nt,nt=zJY x aw:=⟨_,rfl⟩
 obtain⟨pp,hpp⟩:∃pp,pp=zJX x ad:=⟨_,rfl⟩
 have uN:nt.2.2=0→UpP ⟨ns,ss,ws,ds⟩ nt.1:=fun h=>by rw[hnt,hx] at h ⊢;exact hI.nt_U (i:=an.toNat) hlt h
 have uP:pp.2.2=0→UpP ⟨ns,ss,ws,ds⟩ pp.1:=fun h=>by rw[hpp,hx] at h ⊢;exact hI.pp_U (i:=an.toNat) hlt h
 obtain⟨R,hR⟩:∃R,R=zIz ⟨ns,ss,ws,ds⟩ ⟨ak,an,aw,ap,ad⟩:=⟨_,rfl⟩
 rw[←hR] at hN
 simp[-List.getD_eq_getElem?_getD,zLj,zT,zG1,zE8,zBz,zGZ,CL.pv,ND.pv,zF3,zXs,zQ8,eA,hx',←hR,←hnt,←hpp]
 refine⟨by decide +kernel,⟨h1.1,by omega⟩,hlt,?_⟩
 intros
 refine⟨fun h6=>⟨fun hup=>?_,fun hup=>?_⟩,fun h6=>⟨fun hup=>?_,fun hup=>⟨fun h5=>?_,fun h5=>?_⟩⟩⟩
 ·rw[hu] at hup
  rw[if_pos h6,if_pos hup] at hN
  rw[hN];exact⟨rfl,rfl,rfl,rfl,rfl⟩
 ·rw[hu] at hup
  rw[if_pos h6,if_neg (by simp[hup])] at hN
  refine hW.vc [(5,[8],tkN [0,1,2,3,4,5,6,7] (alS 8 .done))] _ _ ?_
  simp[-List.getD_eq_getElem?_getD,zLj,zT,zG1,zE8,zBz,zGZ,CL.pv,ND.pv,zF3,zXs,zQ8,eA,hx',←hR,←hnt,←hpp]
  have a1:nth ns an.toNat=x.pv:=by rw[hx];exact(hI.at (i:=an.toNat) hlt).1
  rw[hN,a1]
  exact⟨by decide +kernel,⟨h1.1,by omega⟩,hlt,rfl,rfl,rfl,rfl,rfl⟩
 ·rw[hu] at hup
  rw[if_neg h6,if_pos hup] at hN
  rw[hN];exact⟨rfl,rfl,rfl,rfl,rfl⟩
 ·rw[hu] at hup
  rw[if_neg h6,if_neg (by simp[hup]),if_pos h5] at hN
  refine hW.vc [(11,[11],tkN [0,1,2,3,4,5,6,7,8,9,10] (alS 11 .done))] _ _ ?_
  simp[-List.getD_eq_getElem?_getD,zLj,zT,zG1,zE8,zBz,zGZ,CL.pv,ND.pv,zF3,zXs,zQ8,eA,hx',←hR,←hnt,←hpp]
  have sl:ss.length=ns.length:=hI.sl
  obtain⟨b1,b2,b3,b4⟩:=hI.at (i:=an.toNat) hlt
  have b3:(nth (nth ss an.toNat).A 1).I=(nth (nth ss an.toNat).A 0).S.length:=b3
  have b5:(nth (nth ss an.toNat).A 0).S.length≤60000:=b4.l
  rw[hN]
  exact⟨by decide +kernel,⟨h1.1,by omega⟩,by omega,fun _ _ _=>⟨⟨h1.1,hlt,hI.n5,sl,b5,by omega,by omega⟩,rfl,rfl,rfl,rfl,rfl⟩⟩
 ·rw[hu] at hup
  rw[if_neg h6,if_neg (by simp[hup]),if_neg h5] at hN
  refine⟨fun k1=>⟨hv,fun k2=>?_,fun k2=>⟨uN k2,?_⟩⟩,fun k1 _=>⟨fun k2=>?_,fun k2=>⟨hv,fun k3=>?_,fun k3=>⟨uP k3,?_⟩⟩⟩⟩
  ·rw[if_pos k1,←hnt,zCy,if_pos k2] at hN
   rw[hN];exact⟨rfl,rfl,rfl,rfl,rfl⟩
  ·rw[if_pos k1,←hnt,zCy,if_neg (by simp[k2])] at hN
   rw[hN];exact⟨rfl,rfl,rfl,rfl,rfl⟩
  ·rw[if_neg k1,if_pos k2] at hN
   rw[hN];exact⟨rfl,rfl,rfl,rfl,rfl⟩
  ·rw[if_neg k1,if_neg (by simp[k2]),←hpp,zCy,if_pos k3] at hN
   rw[hN];exact⟨rfl,rfl,rfl,rfl,rfl⟩
  ·rw[if_neg k1,if_neg (by simp[k2]),←hpp,zCy,if_neg (by simp[k3])] at hN
   rw[hN];exact⟨rfl,rfl,rfl,rfl,rfl⟩
theorem zNX{k:Int}:zYK k=true↔k=2∨k=3∨k=4∨k=8:=by simp[zYK,or_assoc]
theorem zRb{k:Int}:ze7 k=true↔k=1∨k=5∨k=6∨k=7:=by simp[ze7,or_assoc]
def zFC:zJ:=⟨[(.bx,.box [.list (.agg [.int .i64,.int .i64,.int .i64,.int .i64,.int .i64,.bool,.list (.agg [.int .i64,.str]),.int .i64,.int .i64,.int .i64,.list (.int .i64),.list (.int .i64),.list (.int .i64)]),.list (.agg [.str,.int .i64]),.list (.agg [.int .i64,.int .i64,.int .i64,.int .i64,.int .i64,.int .i64,.int .i64,.bool,.list (.agg [.int .i64,.str])]),.list .str]),(.rd,.agg [.int .i64,.int .i64,.int .i64,.int .i64,.str])],[.int .i64],true,fun ps=>ClI (zFs (nth ps 0).A),fun ps=>[.int .i64 (zAS (zFs (nth ps 0).A) (zDb (nth ps 1).A)).2],fun ps=>[(zAS (zFs (nth ps 0).A) (zDb (nth ps 1).A)).1.pv]⟩
set_option maxHeartbeats 2000000 in
theorem zQG:zh Tryz.prog 51 zFC:=by
 refine zP [0,1,3,4,6] [.tmp 4] (zA (cs:=[]) zA9 (zA (cs:=[]) zZb (zA (cs:=[]) zZa (zD (zB []))))) mixed Tryz.func51 rfl (by decide) rfl (by decide) rfl ?_
 intro ps hT hpre W hW
 simp only[zFC,TyA,Ty,Tys] at hT hpre
 obtain⟨_,_,rfl,⟨_,rfl,_,_,rfl,⟨ns,rfl,hns,tns⟩,_,_,rfl,⟨ss,rfl,hss,tss⟩,_,_,rfl,⟨ws,rfl,hws,tws⟩,_,_,rfl,⟨ds,rfl,hds,tds⟩,rfl⟩,_,_,rfl,⟨_,rfl,_,_,rfl,⟨ak,rfl,hak⟩,_,_,rfl,⟨an,rfl,han⟩,_,_,rfl,⟨aw,rfl,haw⟩,_,_,rfl,⟨ap,rfl,hap⟩,_,_,rfl,⟨ad,rfl,had⟩,rfl⟩,rfl⟩:=hT
 simp only[zE,zF,zBE,zAA,yp] at hpre
 have hI:ClI ⟨ns,ss,ws,ds⟩:=hpre
 have n1:1≤ns.length:=hI.n1
 have n5:ns.length≤5:=hI.n5
 have w0:IntKind.i64.wrap ((ns.length:Int) - 1)=(ns.length:Int) - 1:=zC (by omega)
 have eA:zDb [.int .i64 ak,.int .i64 an,.int .i64 aw,.int .i64 ap,.str ad]=⟨ak,an,aw,ap,ad⟩:=rfl
 have hS:zAS ⟨ns,ss,ws,ds⟩ ⟨ak,an,aw,ap,ad⟩=if zYK ak=true then zKp ⟨ns,ss,ws,ds⟩ ⟨ak,an,aw,ap,ad⟩ else if ze7 ak=true then (if inB an 0 (ns.length - 1)=false then (⟨ns,ss,ws,ds⟩,4) else zIz ⟨ns,ss,ws,ds⟩ ⟨ak,an,aw,ap,ad⟩) else (⟨ns,ss,ws,ds⟩,3):=rfl
 obtain⟨R,hR⟩:∃R,R=zAS ⟨ns,ss,ws,ds⟩ ⟨ak,an,aw,ap,ad⟩:=⟨_,rfl⟩
 rw[←hR] at hS
 refine hW.vc [(11,[],tkN [0,1,2,3,4,5,6,7] (alS 8 (tkN [9] .done)))] _ _ ?_
 simp[-List.getD_eq_getElem?_getD,zFC,zHD,zLj,zT,CL.pv,zQ8,eA,←hR,w0]
 clear hW
 have hS1:(ak=2∨ak=3∨ak=4∨ak=8)→R=zKp ⟨ns,ss,ws,ds⟩ ⟨ak,an,aw,ap,ad⟩:=fun h=>by rw[hS,if_pos (zNX.2 h)]
 have hS2:¬(ak=2∨ak=3∨ak=4∨ak=8)→(ak=1∨ak=5∨ak=6∨ak=7)→inB an 0 (ns.length - 1)=false→R=(⟨ns,ss,ws,ds⟩,4):=fun h h2 h3=>by rw[hS,if_neg (fun q=>h (zNX.1 q)),if_pos (zRb.2 h2),if_pos h3]
 have hS3:¬(ak=2∨ak=3∨ak=4∨ak=8)→(ak=1∨ak=5∨ak=6∨ak=7)→inB an 0 (ns.length - 1)=true→R=zIz ⟨ns,ss,ws,ds⟩ ⟨ak,an,aw,ap,ad⟩:=fun h h2 h3=>by rw[hS,if_neg (fun q=>h (zNX.1 q)),if_pos (zRb.2 h2),if_neg (by simp[h3])]
 have hS4:¬(ak=2∨ak=3∨ak=4∨ak=8)→¬(ak=1∨ak=5∨ak=6∨ak=7)→R=(⟨ns,ss,ws,ds⟩,3):=fun h h2=>by rw[hS,if_neg (fun q=>h (zNX.1 q)),if_neg (fun q=>h2 (zRb.1 q))]
 clear hS
 repeat' (first | exact hI | apply And.intro | intro _)
 all_goals first
  | (exfalso;omega)
  | assumption
  | decide +kernel
  | rw[hS1 (by omega)]
  | rw[hS2 (by omega) (by omega) (by assumption)]
  | rw[hS3 (by omega) (by omega) (by assumption)]
  | rw[hS4 (by omega) (by omega)]
  | trace_state
end
end Go.Proofs.YthogljppoiekaaaGreat
