/-
  Part 14: contracts of functions, and the laws by which they are proved.
  Conditions: none.
-/
import Derived.Test.YtdmbfkooebldcaaW13
set_option linter.unusedVariables false
set_option linter.unusedSimpArgs false
set_option linter.unusedSectionVars false
set_option maxRecDepth 100000
namespace Go.Proofs.Ytdmbfkooebldcaa
section
variable [ze]
def atN(es:List PV)(i n:Int):Int:=
 if n≤1 then 0 else if es.length=0 then (i*7).tmod n else ((nth es (i.tmod es.length).toNat).I*31+(nth es ((i+1).tmod es.length).toNat).I+i.tdiv es.length).tmod n
theorem zK5{es:List PV}{i n:Int}(hc:zGg es)(hi:0≤i)(hn:1≤n):0≤atN es i n∧atN es i n < n:=by
 unfold atN
 split
 ·omega
 ·split
  ·exact zEj _ _ (by omega) (by omega)
  ·have h1:=zEj i es.length hi (by omega)
   have h2:=zEj (i+1) es.length (by omega) (by omega)
   have h3:=hc _ (yJ (show(i.tmod es.length).toNat < es.length by omega))
   have h4:=hc _ (yJ (show((i+1).tmod es.length).toNat < es.length by omega))
   have h5:=Int.tdiv_nonneg hi (show(0:Int)≤es.length by omega)
   exact zEj _ _ (by omega) (by omega)
def c_at:zP:=⟨[(.rd,.list (.int .u8)),(.rd,.int .i64),(.rd,.int .i64)],[.int .i64],true,fun ps=>0≤(nth ps 1).I∧(nth ps 1).I≤1000000,fun ps=>[.int .i64 (atN (nth ps 0).L (nth ps 1).I (nth ps 2).I)],fun _=>[]⟩
theorem k_at:yQ Try.prog 4 c_at:=by
 refine zf [0,1,2,6] [.tmp 6] (zG (zD [])) zb Try.func4 rfl (by decide) rfl (by decide) rfl ?_
 intro ps hT hpre W hW
 simp only[c_at,TyA,Ty,Tys] at hT hpre
 obtain⟨_,_,rfl,⟨es,rfl,hes,tes⟩,_,_,rfl,⟨i,rfl,hi⟩,_,_,rfl,⟨n,rfl,hn⟩,rfl⟩:=hT
 simp only[zF,zK,zAS] at hpre
 refine hW.vc [(5,[],tkN [0,1,2,3,4,5,6,7,8,9,10,11,12,13,14,15,16,17,18,19,20,21,22,23,24,25] (alS 26 .done))] _ _ ?_
 simp[-List.getD_eq_getElem?_getD,c_at]
 have hc:=zBG ‹_›
 rw[zC (n:=i*7) (by omega),zC (n:=i+1) (by omega)]
 refine⟨fun h=>by simp[atN,h],fun h _=>⟨fun h2=>⟨by omega,by subst h2;simp[atN,show ¬n≤1 by omega]⟩,fun h2=>?_⟩⟩
 have hl:0 < es.length:=List.length_pos_iff.2 h2
 have h1:=zEj i es.length hpre.1 (by omega)
 have h3:=zEj (i+1) es.length (by omega) (by omega)
 have h4:=hc _ (yJ (show(i.tmod es.length).toNat < es.length by omega))
 have h5:=hc _ (yJ (show((i+1).tmod es.length).toNat < es.length by omega))
 have h6:=Int.tdiv_nonneg hpre.1 (show(0:Int)≤es.length by omega)
 have h7:=Int.tdiv_le_self (es.length:Int) hpre.1
 refine⟨by decide +kernel,fun _=>⟨h2,⟨h1.1,h1.2⟩,by omega,fun _ _=>⟨h2,⟨h3.1,h3.2⟩,by omega,fun _ _=>⟨h2,by omega,?_⟩⟩⟩⟩
 rw[zC (n:=(nth es (i.tmod es.length).toNat).I) (by omega),zC (n:=(nth es (i.tmod es.length).toNat).I*31) (by omega),zC (n:=(nth es ((i+1).tmod es.length).toNat).I) (by omega),zC (n:=i.tdiv es.length) (by omega),
  zC (n:=(nth es (i.tmod es.length).toNat).I*31+(nth es ((i+1).tmod es.length).toNat).I) (by omega),zC (n:=(nth es (i.tmod es.length).toNat).I*31+(nth es ((i+1).tmod es.length).toNat).I+i.tdiv es.length) (by omega)]
 simp[atN,show ¬n≤1 by omega,h2]
end
section
variable [ze]
def zBZ:zP:=⟨[(.rd,.agg [.int .i64,.int .i64,.bool,.int .i64,.int .i64,.list (.agg [.int .i64,.str])]),(.rd,.agg [.int .i64,.int .i64,.bool,.int .i64,.int .i64,.list (.agg [.int .i64,.str])])],[.bool],true,fun _=>True,fun ps=>[.bool (zQV (nth ps 0).A (nth ps 1).A)],fun _=>[]⟩
theorem zLR:yQ Try.prog 11 zBZ:=by
 refine zf [0,1,2,3,4,5] [.tmp 4] (zG (zD [])) zb Try.func11 rfl (by decide) rfl (by decide) rfl ?_
 intro ps hT hpre W hW
 simp only[zBZ,TyA,Ty,Tys] at hT hpre
 obtain⟨_,_,rfl,⟨_,rfl,_,_,rfl,⟨n,rfl,hn⟩,_,_,rfl,⟨f,rfl,hf⟩,_,_,rfl,⟨u,rfl⟩,_,_,rfl,⟨w,rfl,hw⟩,_,_,rfl,⟨h,rfl,hh⟩,_,_,rfl,⟨es,rfl,hes,tes⟩,rfl⟩,_,_,rfl,⟨_,rfl,_,_,rfl,⟨n',rfl,hn'⟩,_,_,rfl,⟨f',rfl,hf'⟩,_,_,rfl,⟨u',rfl⟩,_,_,rfl,⟨w',rfl,hw'⟩,_,_,rfl,⟨h',rfl,hh'⟩,_,_,rfl,⟨es',rfl,hes',tes'⟩,rfl⟩,rfl⟩:=hT
 refine hW.vc [(6,[],tkN [0,1,2,3,4,5,6,7,8,9,10] .done)] _ _ ?_
 simp[-List.getD_eq_getElem?_getD,zBZ]
 refine fun l1 l2=>⟨fun q=>?_,fun q1 q2 q3 q4 q5 q6=>?_⟩
 ·rcases q with (((((q | q) | q) | q) | q) | q)<;>simp only[zQV,zF,zK,zAS,zNj,zCk]
  ·simp[q]
  ·simp[q]
  ·simp[q]
  ·simp[q]
  ·simp[q]
  ·rw[zNH (by omega),Bool.and_false]
 subst q1 q2 q3 q4 q5
 have l1:=l1 rfl rfl rfl rfl rfl
 refine hW.loopS _ _ _ [.sl 5 .dp (.int .i64)] (fun ys=>∃i:Nat,ys=[.int .i64 i]∧i≤es.length∧eqL zEU es es'=eqL zEU (es.drop i) (es'.drop i)) (fun ys=>es.length - (nth ys 0).I.toNat) ?_ ?_
 ·simp[-List.getD_eq_getElem?_getD,zBZ]
  exact⟨0,rfl,by simp,by simp⟩
 ·rintro ys ⟨i,rfl,h4,h5⟩
  refine hW.vc [(6,[],tkN [0,1,2,3,4,5,6,7,8,9,10] .done)] _ _ ?_
  simp[-List.getD_eq_getElem?_getD,zBZ]
  refine fun _=>⟨fun h6=>⟨by decide +kernel,h6,fun _ _ _=>⟨by omega,fun _ _ _=>⟨by decide +kernel,?_⟩⟩⟩,fun h6=>?_⟩
  ·have e:zQV [.int .i64 n,.int .i64 f,.bool u,.int .i64 w,.int .i64 h,.list es] [.int .i64 n,.int .i64 f,.bool u,.int .i64 w,.int .i64 h,.list es']=eqL zEU es es':=by
    simp[zQV]
   rw[zBC h6,zBC (by omega:i < es'.length),eqL] at h5
   rw[zC (by omega),e,h5]
   refine⟨fun h7=>?_,fun h7 h8=>⟨⟨i+1,by simp,by omega,?_⟩,by omega⟩⟩
   ·rcases h7 with h7 | h7<;>simp[zEU,zKq,h7]
   ·simp[zEU,zKq,h7,h8]
  ·rw[List.drop_eq_nil_of_le h6,List.drop_eq_nil_of_le (by omega)] at h5
   simp[zQV,h5,eqL]
theorem zSe{m:List UInt8}{v:VW}(h:rvV m=(v,0)):zAA v=(zW m,0):=by
 unfold rvV at h
 split at h
 ·cases h
 ·split at h
  ·rename_i hq
   have e:(rvI m).1=v:=(Prod.mk.inj h).1
   unfold rvI at hq e
   split at hq
   ·rename_i h0
    rw[if_pos h0] at e
    split at hq
    ·rename_i v' _ hv
     rw[hv] at e
     simp only at e
     split at hq
     ·rename_i hc
      rw[if_pos hc] at e
      rw[←e,zL1 hc.1,hc.2]
     ·cases hq
    ·cases hq
   ·cases hq
  ·cases h
def zCi:zP:=⟨[(.rd,.list (.int .u8)),(.rd,.list (.int .u8))],[.bool],true,fun _=>True,fun _=>[.bool true],fun _=>[]⟩
theorem zOZ:yQ Try.prog 3 zCi:=by
 refine zf [0,1,4,5,6,7,9,10,11,13,14,15,16,18,19,20] [.tmp 4] (zA (cs:=[]) zLR (zA (cs:=[]) zJd (zA (cs:=[]) zJk (zA (cs:=[]) zIk (zA (cs:=[]) zIp (zA (cs:=[]) zJf (zA (cs:=[]) zJe (zA (cs:=[]) zOb (zA (cs:=[]) k_at (zG (zD []))))))))))) zb Try.func3 rfl (by decide) rfl (by decide) rfl ?_
 intro ps hT hpre W hW
 simp only[zCi,TyA,Ty,Tys] at hT hpre
 obtain⟨_,_,rfl,⟨es,rfl,hes,tes⟩,_,_,rfl,⟨ms,rfl,hms,tms⟩,rfl⟩:=hT
 have hce:=zBG tes
 have hcm:=zBG tms
 have a0:=zK5 (es:=ms) (i:=0) (n:=21) hcm (by omega) (by omega)
 have a1:=zK5 (es:=ms) (i:=1) (n:=7) hcm (by omega) (by omega)
 have a2:=zK5 (es:=ms) (i:=2) (n:=60) hcm (by omega) (by omega)
 have a3:=zK5 (es:=ms) (i:=2) (n:=50) hcm (by omega) (by omega)
 obtain⟨w,ew⟩:∃w,IntKind.i64.wrap (4+atN ms 0 21)=w:=⟨_,rfl⟩
 obtain⟨h,eh⟩:∃h,IntKind.i64.wrap (4+atN ms 1 7)=h:=⟨_,rfl⟩
 obtain⟨k,ek⟩:∃k,IntKind.i64.wrap (2+atN ms 2 50)=k:=⟨_,rfl⟩
 have hw:2≤w∧w≤24:=by rw[←ew,zC (by omega)];omega
 have hh:2≤h∧h≤10:=by rw[←eh,zC (by omega)];omega
 have hk:2≤k∧k≤60:=by rw[←ek,zC (by omega)];omega
 have hz:zBo w h=true:=by simp[zBo,inB];omega
 have r1:=zME (es:=es) (s:=⟨0,zCr es⟩) hw hh
 have r2:=zME (es:=ms) (s:=⟨0,zCr ms⟩) hw hh
 have r3:=zHf r1.1
 have r4:=zHf r2.1
 rw[r1.2.1,r1.2.2] at r3
 rw[r2.2.1,r2.2.2] at r4
 obtain⟨la,hla⟩:∃la,zDZ (zPs es ⟨0,zCr es⟩ w h)=la:=⟨_,rfl⟩
 obtain⟨lb,hlb⟩:∃lb,zDZ (zPs ms ⟨0,zCr ms⟩ w h)=lb:=⟨_,rfl⟩
 rw[hla] at r3
 rw[hlb] at r4
 have eA:(zIO es ⟨0,zCr es⟩ w h).1=la:=hla
 have eB:(zIO ms ⟨0,zCr ms⟩ w h).1=lb:=hlb
 obtain⟨v1,f1⟩:=zQT (n:=atN ms 2 60) (by omega) hz r3.1
 obtain⟨v2,f2⟩:=zQZ (f:=1) (n:=k) (by omega) hz r3.1 r4.1
 have b1:=zL1 v1
 have b2:=zL1 v2
 have t1:=zKE v1 (zNB la 0)
 have t2:=zKE v2 (zJw la lb 0)
 obtain⟨T1,hT1⟩:∃T,zDW ⟨atN ms 2 60,0,true,w,h,zAu 0 la⟩=T:=⟨_,rfl⟩
 obtain⟨T2,hT2⟩:∃T,zDW ⟨k,1,false,w,h,yW 0 la lb⟩=T:=⟨_,rfl⟩
 rw[hT1] at b1 t1
 rw[hT2] at b2 t2
 obtain⟨xn,xf,xu,xw,xh,xr,xe,hX⟩:∃xn xf xu xw xh xr xe,rvV (yL ms)=(⟨xn,xf,xu,xw,xh,xr⟩,xe):=⟨_,_,_,_,_,_,_,rfl⟩
 have hR:xe=0→zAA ⟨xn,xf,xu,xw,xh,xr⟩=(zW (yL ms),0):=fun q=>zSe (by rw[hX,q])
 refine hW.vc [] _ _ ?_
 simp[-List.getD_eq_getElem?_getD,zCi,c_at,zDV,zCf,zA2,zBL,yg,yl,zCe,zBZ,zA3,ym,zA3,ym,yl,zBL,VW.pv,ew,eh,ek,eA,eB,f1,f2,b1,b2,t1,t2,hX,zNG,yZ]
 have hF:xe=0→(zAA ⟨xn,xf,xu,xw,xh,xr⟩).2=0∧yL (zAA ⟨xn,xf,xu,xw,xh,xr⟩).1=yL ms:=fun q=>by rw[hR q];exact⟨rfl,yZ _⟩
 exact fun _ _ _ _=>⟨⟨hw,hh⟩,fun _=>⟨⟨hw,hh⟩,hF⟩,fun _=>hF⟩
end
end Go.Proofs.Ytdmbfkooebldcaa
