/-
  Part 13: contracts of functions, and the laws by which they are proved.
  Conditions: none.
-/
import Derived.Test.YtdmbfkooebldcaaGreatDoorW12
set_option linter.unusedVariables false
set_option linter.unusedSimpArgs false
set_option linter.unusedSectionVars false
set_option maxRecDepth 100000
namespace Go.Proofs.YtdmbfkooebldcaaGreatDoor
section
variable [zZ]
def atN(es:List PV)(i n:Int):Int:=
 if n≤1 then 0 else if es.length=0 then (i*7).tmod n else ((nth es (i.tmod es.length).toNat).I*31+(nth es ((i+1).tmod es.length).toNat).I+i.tdiv es.length).tmod n
theorem zPB{es:List PV}{i n:Int}(hc:zGO es)(hi:0≤i)(hn:1≤n):0≤atN es i n∧atN es i n < n:=by
 unfold atN
 split
 ·omega
 ·split
  ·exact zEW _ _ (by omega) (by omega)
  ·have h1:=zEW i es.length hi (by omega)
   have h2:=zEW (i+1) es.length (by omega) (by omega)
   have h3:=hc _ (yR (show(i.tmod es.length).toNat < es.length by omega))
   have h4:=hc _ (yR (show((i+1).tmod es.length).toNat < es.length by omega))
   have h5:=Int.tdiv_nonneg hi (show(0:Int)≤es.length by omega)
   exact zEW _ _ (by omega) (by omega)
def c_at:zS:=⟨[(.rd,.list (.int .u8)),(.rd,.int .i64),(.rd,.int .i64)],[.int .i64],true,fun ps=>0≤(nth ps 1).I∧(nth ps 1).I≤1000000,fun ps=>[.int .i64 (atN (nth ps 0).L (nth ps 1).I (nth ps 2).I)],fun _=>[]⟩
theorem k_at:yQ Tryz.prog 4 c_at:=by
 refine zf [0,1,2,6] [.tmp 6] (zI (zF [])) zc Tryz.func4 rfl (by decide) rfl (by decide) rfl ?_
 intro ps hT hpre W hW
 simp only[c_at,TyA,Ty,Tys] at hT hpre
 obtain⟨_,_,rfl,⟨es,rfl,hes,tes⟩,_,_,rfl,⟨i,rfl,hi⟩,_,_,rfl,⟨n,rfl,hn⟩,rfl⟩:=hT
 simp only[zE,zG,yu] at hpre
 refine hW.vc [(5,[],tkN [0,1,2,3,4,5,6,7,8,9,10,11,12,13,14,15,16,17,18,19,20,21,22,23,24,25] (alS 26 .done))] _ _ ?_
 simp[-List.getD_eq_getElem?_getD,c_at]
 have hc:=zAz ‹_›
 rw[zC (n:=i*7) (by omega),zC (n:=i+1) (by omega)]
 refine⟨fun h=>by simp[atN,h],fun h _=>⟨fun h2=>⟨by omega,by subst h2;simp[atN,show ¬n≤1 by omega]⟩,fun h2=>?_⟩⟩
 have hl:0 < es.length:=List.length_pos_iff.2 h2
 have h1:=zEW i es.length hpre.1 (by omega)
 have h3:=zEW (i+1) es.length (by omega) (by omega)
 have h4:=hc _ (yR (show(i.tmod es.length).toNat < es.length by omega))
 have h5:=hc _ (yR (show((i+1).tmod es.length).toNat < es.length by omega))
 have h6:=Int.tdiv_nonneg hpre.1 (show(0:Int)≤es.length by omega)
 have h7:=Int.tdiv_le_self (es.length:Int) hpre.1
 refine⟨by decide +kernel,fun _=>⟨h2,⟨h1.1,h1.2⟩,by omega,fun _ _=>⟨h2,⟨h3.1,h3.2⟩,by omega,fun _ _=>⟨h2,by omega,?_⟩⟩⟩⟩
 rw[zC (n:=(nth es (i.tmod es.length).toNat).I) (by omega),zC (n:=(nth es (i.tmod es.length).toNat).I*31) (by omega),zC (n:=(nth es ((i+1).tmod es.length).toNat).I) (by omega),zC (n:=i.tdiv es.length) (by omega),
  zC (n:=(nth es (i.tmod es.length).toNat).I*31+(nth es ((i+1).tmod es.length).toNat).I) (by omega),zC (n:=(nth es (i.tmod es.length).toNat).I*31+(nth es ((i+1).tmod es.length).toNat).I+i.tdiv es.length) (by omega)]
 simp[atN,show ¬n≤1 by omega,h2]
end
section
variable [zZ]
def zBL:zS:=⟨[(.rd,.agg [.int .i64,.int .i64,.bool,.int .i64,.int .i64,.list (.agg [.int .i64,.str])]),(.rd,.agg [.int .i64,.int .i64,.bool,.int .i64,.int .i64,.list (.agg [.int .i64,.str])])],[.bool],true,fun _=>True,fun ps=>[.bool (zPz (nth ps 0).A (nth ps 1).A)],fun _=>[]⟩
theorem zK3:yQ Tryz.prog 9 zBL:=by
 refine zf [0,1,2,3,4,5] [.tmp 4] (zI (zF [])) zc Tryz.func9 rfl (by decide) rfl (by decide) rfl ?_
 intro ps hT hpre W hW
 simp only[zBL,TyA,Ty,Tys] at hT hpre
 obtain⟨_,_,rfl,⟨_,rfl,_,_,rfl,⟨n,rfl,hn⟩,_,_,rfl,⟨f,rfl,hf⟩,_,_,rfl,⟨u,rfl⟩,_,_,rfl,⟨w,rfl,hw⟩,_,_,rfl,⟨h,rfl,hh⟩,_,_,rfl,⟨es,rfl,hes,tes⟩,rfl⟩,_,_,rfl,⟨_,rfl,_,_,rfl,⟨n',rfl,hn'⟩,_,_,rfl,⟨f',rfl,hf'⟩,_,_,rfl,⟨u',rfl⟩,_,_,rfl,⟨w',rfl,hw'⟩,_,_,rfl,⟨h',rfl,hh'⟩,_,_,rfl,⟨es',rfl,hes',tes'⟩,rfl⟩,rfl⟩:=hT
 refine hW.vc [(6,[],tkN [0,1,2,3,4,5,6,7,8,9,10] .done)] _ _ ?_
 simp[-List.getD_eq_getElem?_getD,zBL]
 refine fun l1 l2=>⟨fun q=>?_,fun q1 q2 q3 q4 q5 q6=>?_⟩
 ·rcases q with (((((q | q) | q) | q) | q) | q)<;>simp only[zPz,zE,zG,yu,zND,zBf]
  ·simp[q]
  ·simp[q]
  ·simp[q]
  ·simp[q]
  ·simp[q]
  ·rw[zJZ (by omega),Bool.and_false]
 subst q1 q2 q3 q4 q5
 have l1:=l1 rfl rfl rfl rfl rfl
 refine hW.loopS _ _ _ [.sl 5 .dp (.int .i64)] (fun ys=>∃i:Nat,ys=[.int .i64 i]∧i≤es.length∧eqL zEG es es'=eqL zEG (es.drop i) (es'.drop i)) (fun ys=>es.length - (nth ys 0).I.toNat) ?_ ?_
 ·simp[-List.getD_eq_getElem?_getD,zBL]
  exact⟨0,rfl,by simp,by simp⟩
 ·rintro ys ⟨i,rfl,h4,h5⟩
  refine hW.vc [(6,[],tkN [0,1,2,3,4,5,6,7,8,9,10] .done)] _ _ ?_
  simp[-List.getD_eq_getElem?_getD,zBL]
  refine fun _=>⟨fun h6=>⟨by decide +kernel,h6,fun _ _ _=>⟨by omega,fun _ _ _=>⟨by decide +kernel,?_⟩⟩⟩,fun h6=>?_⟩
  ·have e:zPz [.int .i64 n,.int .i64 f,.bool u,.int .i64 w,.int .i64 h,.list es] [.int .i64 n,.int .i64 f,.bool u,.int .i64 w,.int .i64 h,.list es']=eqL zEG es es':=by
    simp[zPz]
   rw[zBE h6,zBE (by omega:i < es'.length),eqL] at h5
   rw[zC (by omega),e,h5]
   refine⟨fun h7=>?_,fun h7 h8=>⟨⟨i+1,by simp,by omega,?_⟩,by omega⟩⟩
   ·rcases h7 with h7 | h7<;>simp[zEG,zKU,h7]
   ·simp[zEG,zKU,h7,h8]
  ·rw[List.drop_eq_nil_of_le h6,List.drop_eq_nil_of_le (by omega)] at h5
   simp[zPz,h5,eqL]
end
section
variable [zZ]
def zAo:zS:=yo
theorem zJI:yQ Tryz.prog 12 zAo:=by
 refine zf [0,1,4,5] [.tmp 4] (zI (zF [])) zc Tryz.func12 rfl (by decide) rfl (by decide) rfl ?_
 intro ps hT hpre W hW
 simp only[zAo,TyA,Ty,Tys] at hT hpre
 simp only[yo,TyA,Ty,Tys] at hT
 obtain⟨_,_,rfl,⟨es,rfl,hes,tes⟩,_,_,rfl,⟨es2,rfl,hes2,tes2⟩,rfl⟩:=hT
 refine hW.vc [(6,[],tkN [0,1,2,3,4,5,6,7,8] .done)] _ _ ?_
 simp[-List.getD_eq_getElem?_getD,zAo,yo,yo]
 refine fun h1 h2=>⟨fun h3=>zJZ (by omega),fun h3=>?_⟩
 refine hW.loopS _ _ _ [.sl 5 .dp (.int .i64)] (fun ys=>∃i:Nat,ys=[.int .i64 i]∧i≤es.length∧eqL (fun x y=>x.S == y.S) es es2=eqL (fun x y=>x.S == y.S) (es.drop i) (es2.drop i)) (fun ys=>es.length - (nth ys 0).I.toNat) ?_ ?_
 ·simp[-List.getD_eq_getElem?_getD,zAo,yo]
  exact⟨0,rfl,by simp,by simp⟩
 ·rintro ys ⟨i,rfl,h4,h5⟩
  refine hW.vc [(6,[],tkN [0,1,2,3,4,5,6,7,8] .done)] _ _ ?_
  simp[-List.getD_eq_getElem?_getD,zAo,yo]
  refine fun _=>⟨fun h6=>⟨by decide +kernel,h6,fun _=>⟨by omega,fun _=>?_⟩⟩,fun h6=>?_⟩
  ·rw[zBE h6,zBE (by omega:i < es2.length),eqL] at h5
   rw[zC (by omega)]
   refine⟨fun h7=>by rw[h5];simp[h7],fun h7=>⟨⟨i+1,by omega,by omega,by rw[h5];simp[h7]⟩,by omega⟩⟩
  ·rw[h5,List.drop_eq_nil_of_le h6,List.drop_eq_nil_of_le (by omega)];rfl
end
section
variable [zZ]
def zGT:zS:=⟨[(.rd,.list (.int .u8)),(.rd,.list (.int .u8))],[.bool],true,fun _=>True,fun _=>[.bool true],fun _=>[]⟩
theorem zSa:yQ Tryz.prog 3 zGT:=by
 refine zf [0,1,4,5,6,7,8,9,10,11,12,13,15,16,17,18,19,21,23,24,25,26] [.tmp 4] (zA (cs:=[]) zHZ (zA (cs:=[]) zHa (zA (cs:=[]) zLC (zA (cs:=[]) zJI (zA (cs:=[]) zHb (zA (cs:=[]) zMZ (zA (cs:=[]) zK3 (zA (cs:=[]) zJK (zA (cs:=[]) zJO (zA (cs:=[]) zJN (zA (cs:=[]) zNu (zA (cs:=[]) k_at (zI (zF [])))))))))))))) zc Tryz.func3 rfl (by decide) rfl (by decide) rfl ?_
 intro ps hT hpre W hW
 simp only[zGT,TyA,Ty,Tys] at hT hpre
 obtain⟨_,_,rfl,⟨es,rfl,hes,tes⟩,_,_,rfl,⟨ms,rfl,hms,tms⟩,rfl⟩:=hT
 have hce:=zAz tes
 have hcm:=zAz tms
 have a0:=zPB (es:=ms) (i:=0) (n:=21) hcm (by omega) (by omega)
 have a1:=zPB (es:=ms) (i:=1) (n:=7) hcm (by omega) (by omega)
 obtain⟨w,ew⟩:∃w,IntKind.i64.wrap (4+atN ms 0 21)=w:=⟨_,rfl⟩
 obtain⟨h,eh⟩:∃h,IntKind.i64.wrap (4+atN ms 1 7)=h:=⟨_,rfl⟩
 have hw:2≤w∧w≤24:=by rw[←ew,zC (by omega)];omega
 have hh:2≤h∧h≤10:=by rw[←eh,zC (by omega)];omega
 have hz:zAP w h=true:=by simp[zAP,inB];omega
 have r1:=zLm (es:=es) (s:=⟨0,zCf es⟩) hw hh
 have r2:=zLm (es:=ms) (s:=⟨0,zCf ms⟩) hw hh
 have r3:=zHL r1.1
 have r4:=zHL r2.1
 rw[r1.2.1,r1.2.2] at r3
 rw[r2.2.1,r2.2.2] at r4
 obtain⟨la,hla⟩:∃la,zDJ (zPT es ⟨0,zCf es⟩ w h)=la:=⟨_,rfl⟩
 obtain⟨lb,hlb⟩:∃lb,zDJ (zPT ms ⟨0,zCf ms⟩ w h)=lb:=⟨_,rfl⟩
 rw[hla] at r3
 rw[hlb] at r4
 have eA:(zH3 es ⟨0,zCf es⟩ w h).1=la:=hla
 have eB:(zH3 ms ⟨0,zCf ms⟩ w h).1=lb:=hlb
 obtain⟨v1,f1⟩:=zMh (n:=3) (by omega) hz r3.1
 obtain⟨v2,f2⟩:=zMu (f:=3) (n:=5) (by omega) hz r3.1 r4.1
 obtain⟨p1,p2,p3,p4⟩:=zNJ hz r3.1 r4.1 r3.2.2 r4.2.2
 have p5:=zMH (n:=5) (by omega) hz r4.1
 have v1':zCa [.int .i64 3,.int .i64 0,.bool true,.int .i64 w,.int .i64 h,.list (yz 0 la)]=true:=v1
 have v2':zCa [.int .i64 5,.int .i64 3,.bool false,.int .i64 w,.int .i64 h,.list (z9 0 la lb)]=true:=v2
 have p1':yc ⟨-1,0,0,[]⟩ ⟨3,0,true,w,h,yz 0 la⟩=(⟨3,w,h,la⟩,0):=p1
 obtain⟨X,hX⟩:∃X,yc ⟨-1,0,0,[]⟩ ⟨5,3,false,w,h,z9 0 la lb⟩=(X,19):=⟨(yc ⟨-1,0,0,[]⟩ ⟨5,3,false,w,h,z9 0 la lb⟩).1,by rw[show(19:Int)=(yc ⟨-1,0,0,[]⟩ ⟨5,3,false,w,h,z9 0 la lb⟩).2 from p4.symm]⟩
 have p5':zGd [.int .i64 5,.int .i64 w,.int .i64 h,.list lb]=true:=p5
 have p6:zNE [.int .i64 5,.int .i64 w,.int .i64 h,.list lb]=(zDx lb,0):=by rw[zNE,if_pos p5'];rfl
 refine hW.vc [] _ _ ?_
 simp[-List.getD_eq_getElem?_getD,zGT,c_at,zDE,zBc,yC,zAq,zBL,zCs,zAa,zAo,zDF,zh,yr,zAZ,yo,zm,zBc,yC,zCs,zAZ,zAa,zh,yo,VW.pv,MR.pv,ew,eh,eA,eB,f1,f2,zMm,v1',v2',p1',p2,p3,hX,p5',p6,zN4]
 exact fun _ _ _ _=>⟨hw,hh⟩
end
end Go.Proofs.YtdmbfkooebldcaaGreatDoor
