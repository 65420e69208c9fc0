/-
  Part 7: contracts of functions, and the laws by which they are proved.
  Conditions: none.
-/
import Derived.Test.YtdmbfkooebldcaaGreatDoorW6
set_option linter.unusedVariables false
set_option linter.unusedSimpArgs false
set_option linter.unusedSectionVars false
set_option maxRecDepth 100000
namespace Go.Proofs.YtdmbfkooebldcaaGreatDoor
section
variable [zZ]
structure MR where
 n:Int
 w:Int
 h:Int
 r:List PV
def MR.pv(m:MR):PV:=.agg [.int .i64 m.n,.int .i64 m.w,.int .i64 m.h,.list m.r]
def MR.no:MR:=⟨0,0,0,[]⟩
def MR.ls(m:MR):List PV:=[.int .i64 m.n,.int .i64 m.w,.int .i64 m.h,.list m.r]
def VW.ls(v:VW):List PV:=[.int .i64 v.n,.int .i64 v.f,.bool v.u,.int .i64 v.w,.int .i64 v.h,.list v.r]
def zGu(out:List PV)(e:PV):List PV:=out.set (nth e.A 0).I.toNat (.str (nth e.A 1).S)
def ye(out:List PV)(es:List PV):List PV:=es.foldl zGu out
theorem zCh{out es:List PV}{i:Nat}(h:i < es.length):ye out (es.take (i+1))=(ye out (es.take i)).set (nth (nth es i).A 0).I.toNat (.str (nth (nth es i).A 1).S):=by
 rw[zBh h,ye,List.foldl_append];rfl
theorem zAl:∀(es out:List PV),(ye out es).length=out.length
 | [],out=>rfl
 | e :: es,out=>by
  have:=zAl es (zGu out e)
  simp only[ye,List.foldl_cons] at this ⊢
  rw[this,zGu,List.length_set]
theorem zOp{w h:Int}:∀{es:List PV} {p:Int},upB w h p es=true→∀i,i < es.length→0≤(nth (nth es i).A 0).I∧(nth (nth es i).A 0).I < h
 | [],p,hu,i,hi=>by simp at hi
 | e :: es,p,hu,0,hi=>by
  simp only[upB,Bool.and_eq_true,inB,decide_eq_true_eq] at hu
  rw[zE];omega
 | e :: es,p,hu,i+1,hi=>by
  simp only[upB,Bool.and_eq_true] at hu
  rw[zG]
  exact zOp hu.2 i (by simpa using hi)
theorem zOo{w h:Int}:∀{es:List PV} {p:Int},upB w h p es=true→p≤h - 1→p+es.length≤h - 1
 | [],p,hu,hp=>by simp;omega
 | e :: es,p,hu,hp=>by
  simp only[upB,Bool.and_eq_true,inB,decide_eq_true_eq] at hu
  have:=zOo hu.2 (by omega)
  simp only[List.length_cons]
  omega
theorem zLb{w h:Int}:∀{es:List PV} {p:Int},upB w h p es=true→p≤h - 1→p+es.length=h - 1→∀i,i < es.length→(nth (nth es i).A 0).I=p+1+i
 | [],p,hu,hp,hl,i,hi=>by simp at hi
 | e :: es,p,hu,hp,hl,i,hi=>by
  have h0:=hu
  simp only[upB,Bool.and_eq_true,inB,decide_eq_true_eq] at hu
  have h1:=zOo hu.2 (by omega)
  simp only[List.length_cons] at hl hi
  have h2:(nth e.A 0).I=p+1:=by omega
  cases i with
  | zero=>rw[zE,h2];simp
  | succ i=>
   rw[zG,zLb hu.2 (by omega) (by omega) i (by omega),h2];omega
theorem zJ3{es out:List PV}(h:∀i,i < es.length→(nth (nth es i).A 0).I=i)(hl:out.length=es.length):∀i,i≤es.length→(ye out (es.take i)).take i=(es.take i).map fun e=>.str (nth e.A 1).S
 | 0,_=>by simp
 | i+1,hi=>by
  have ih:=zJ3 h hl i (by omega)
  rw[zCh (by omega),h i (by omega),Int.toNat_natCast,zBh (by rw[List.length_set,zAl];omega),List.take_set_of_le (Nat.le_refl _),ih,zPj (by rw[zAl];omega),zBh (show i < es.length by omega),List.map_append]
  rfl
def zAd(m:MR)(v:VW):MR × Int:=
 if v.n≤m.n then (m,15) else cond v.u (⟨v.n,v.w,v.h,ye (List.replicate v.h.toNat (.str [])) v.r⟩,0)
  (if (v.f≠m.n∨v.w≠m.w)∨v.h≠m.h then (m,19) else (⟨v.n,m.w,m.h,ye m.r v.r⟩,0))
theorem zS5{m:MR}{v:VW}(h:v.n≤m.n):zAd m v=(m,15):=if_pos h
theorem zS4{m:MR}{v:VW}(h:m.n < v.n)(hu:v.u=true):zAd m v=(⟨v.n,v.w,v.h,ye (List.replicate v.h.toNat (.str [])) v.r⟩,0):=by
 rw[zAd,if_neg (by omega),hu];rfl
theorem zS3{m:MR}{v:VW}(h:m.n < v.n)(hu:v.u=false)(hd:(v.f≠m.n∨v.w≠m.w)∨v.h≠m.h):zAd m v=(m,19):=by
 rw[zAd,if_neg (by omega),hu,cond_false,if_pos hd]
theorem zS2{m:MR}{v:VW}(h:m.n < v.n)(hu:v.u=false)(h1:v.f=m.n)(h2:v.w=m.w)(h3:v.h=m.h):zAd m v=(⟨v.n,m.w,m.h,ye m.r v.r⟩,0):=by
 rw[zAd,if_neg (by omega),hu,cond_false,if_neg (by simp[h1,h2,h3])]
theorem zNg{n w h n' f w' h':Int}{u:Bool}{rs es:List PV}(hm:zGd [.int .i64 n,.int .i64 w,.int .i64 h,.list rs]=true)(hv:zCa [.int .i64 n',.int .i64 f,.bool u,.int .i64 w',.int .i64 h',.list es]=true) :
  (0≤n'∧n'≤60∧2≤w'∧w'≤24∧2≤h'∧h'≤10∧(es.length:Int)≤h')∧upB w' h' (-1) es=true∧(u=true→(es.length:Int)=h')∧(h'=h→(rs.length:Int)=h)∧rs.length≤10:=by
 have e1:inB n' 0 60=true∧zAP w' h'=true∧leB es.length h'=true∧upB w' h' (-1) es=true∧zOt u (f == 0&&(es.length:Int) == h') (inB f 0 (n' - 1))=true:=by
  simpa[zCa,zE,zG,yu,zBf,zND,and_assoc] using hv
 obtain⟨h1,h2,h4,h5,h6⟩:=e1
 simp only[inB,zAP,leB,Bool.and_eq_true,decide_eq_true_eq] at h1 h2 h4
 refine⟨by omega,h5,fun hu=>?_,fun hh=>?_,?_⟩
 ·subst hu;simp[zOt] at h6;exact h6.2
 ·subst hh
  by_cases hn:n=-1
  ·simp[zGd,zE,zG,yu,zBf,hn] at hm;omega
  ·simp[zGd,zE,zG,yu,zBf,hn] at hm
   exact zBI hm.2
 ·by_cases hn:n=-1
  ·simp[zGd,zE,zG,yu,zBf,hn] at hm;simp[hm.2]
  ·simp[zGd,zE,zG,yu,zBf,hn] at hm
   have:=zBI hm.2
   have h7:=hm.1.2
   simp[zAP,inB] at h7
   omega
def zBp:zS:=⟨[(.rd,.list .str)],[.list .str],true,fun ps=>(nth ps 0).L.length≤1048576,fun ps=>[.list (nth ps 0).L],fun _=>[]⟩
theorem zNv:yQ Tryz.prog 41 zBp:=by
 refine zf [0,2] [.tmp 2] (zI (zF [])) zc Tryz.func41 rfl (by decide) rfl (by decide) rfl ?_
 intro ps hT hpre W hW
 simp only[zBp,TyA,Ty,Tys] at hT hpre
 obtain⟨_,_,rfl,⟨es,rfl,hes,tes⟩,rfl⟩:=hT
 simp only[zE,zBf] at hpre
 refine hW.vc [] _ _ ?_
 simp[-List.getD_eq_getElem?_getD,zBp]
 omega
def zAO:zS:=⟨[(.rd,.agg [.int .i64,.int .i64,.int .i64,.list .str]),(.rd,.agg [.int .i64,.int .i64,.bool,.int .i64,.int .i64,.list (.agg [.int .i64,.str])])],[.agg [.int .i64,.int .i64,.int .i64,.list .str],.int .i64],true,fun ps=>zGd (nth ps 0).A=true∧zCa (nth ps 1).A=true,
 fun ps=>[(zAd ⟨(nth (nth ps 0).A 0).I,(nth (nth ps 0).A 1).I,(nth (nth ps 0).A 2).I,(nth (nth ps 0).A 3).L⟩ ⟨(nth (nth ps 1).A 0).I,(nth (nth ps 1).A 1).I,(nth (nth ps 1).A 2).B,(nth (nth ps 1).A 3).I,(nth (nth ps 1).A 4).I,(nth (nth ps 1).A 5).L⟩).1.pv,
  .int .i64 (zAd ⟨(nth (nth ps 0).A 0).I,(nth (nth ps 0).A 1).I,(nth (nth ps 0).A 2).I,(nth (nth ps 0).A 3).L⟩ ⟨(nth (nth ps 1).A 0).I,(nth (nth ps 1).A 1).I,(nth (nth ps 1).A 2).B,(nth (nth ps 1).A 3).I,(nth (nth ps 1).A 4).I,(nth (nth ps 1).A 5).L⟩).2],fun _=>[]⟩
theorem zLB:yQ Tryz.prog 29 zAO:=by
 refine zf [0,1,2,3,4,5,6,8,59,60,61] [.cell 4 35,.tmp 5] (zA (cs:=[]) zNv (zI (zF []))) zc Tryz.func29 rfl (by decide) rfl (by decide) rfl ?_
 intro ps hT hpre W hW
 simp only[zAO,TyA,Ty,Tys] at hT hpre
 obtain⟨_,_,rfl,⟨_,rfl,_,_,rfl,⟨n,rfl,hn⟩,_,_,rfl,⟨w,rfl,hw⟩,_,_,rfl,⟨h,rfl,hh⟩,_,_,rfl,⟨rs,rfl,hrs,trs⟩,rfl⟩,_,_,rfl,⟨_,rfl,_,_,rfl,⟨n',rfl,hn'⟩,_,_,rfl,⟨f,rfl,hf⟩,_,_,rfl,⟨u,rfl⟩,_,_,rfl,⟨w',rfl,hw'⟩,_,_,rfl,⟨h',rfl,hh'⟩,_,_,rfl,⟨es,rfl,hes,tes⟩,rfl⟩,rfl⟩:=hT
 simp only[zE,zG,zBR] at hpre
 obtain⟨hm,hv⟩:=hpre
 obtain⟨g1,g2,g3,g4,g5⟩:=zNg hm hv
 refine hW.vc [(1,[11],tkN [0,1,2,3,4,5,6,7] (.alt 8 (tkN [9] (alN [10,11] .done)) (alN [10,8] (tkN [9] (alS 11 .done))))),(5,[8],tkN [0,1,2,3,4,5] (alS 6 (tkN [7] (alS 8 .done))))] _ _ ?_
 simp[-List.getD_eq_getElem?_getD,zAO,zBp,MR.pv]
 have hup:=zOp g2
 refine⟨by decide +kernel,?_,?_⟩
 all_goals
  refine⟨by omega,fun k1=>by rw[zS5 k1];simp,fun k1=>⟨fun k2=>⟨by decide +kernel,by omega,fun _=>?_⟩,fun k2=>⟨fun k3=>by rw[zS3 k1 k2 k3];simp,fun k3 k4 k5 _=>?_⟩⟩⟩
  ·have hb:=zS4 (m:=⟨n,w,h,rs⟩) (v:=⟨n',f,u,w',h',es⟩) k1 k2
   refine hW.loopS _ _ _ [.bx 6 [.int .i64,.int .i64,.int .i64,.list .str],.sl 61 .dp (.int .i64)] (fun ys=>∃i:Nat,ys=[.agg [.int .i64 n',.int .i64 w',.int .i64 h',.list (ye (List.replicate h'.toNat (.str [])) (es.take i))],.int .i64 i]∧i≤es.length) (fun ys=>es.length - (nth ys 1).I.toNat) ?_ ?_
   ·simp[-List.getD_eq_getElem?_getD,zAO,zBp]
    exact⟨0,⟨by simp[ye],rfl⟩,by simp⟩
   ·rintro ys ⟨i,rfl,q1⟩
    refine hW.vc [(1,[11],tkN [0,1,2,3,4,5,6,7] (.alt 8 (tkN [9] (alN [10,11] .done)) (alN [10,8] (tkN [9] (alS 11 .done))))),(5,[8],tkN [0,1,2,3,4,5] (alS 6 (tkN [7] (alS 8 .done))))] _ _ ?_
    simp[-List.getD_eq_getElem?_getD,zAO,zBp,MR.pv]
    have hpl:=zAl (es.take i) (List.replicate h'.toNat (PV.str []))
    have hol:((List.replicate h'.toNat (PV.str [])).length:Int)=h':=by simp;omega
    rw[zC (n:=(i:Int)+1) (by omega),hpl]
    refine⟨fun q2=>⟨q2,fun _ _ _=>⟨⟨(hup i q2).1,by have:=(hup i q2).2;omega⟩,by have:=hup i q2;omega,⟨i+1,⟨(zCh q2).symm,by omega⟩,by omega⟩,by omega⟩⟩,fun q2=>by rw[hb,List.take_of_length_le q2];simp⟩
  ·have hb:=zS2 (m:=⟨n,w,h,rs⟩) (v:=⟨n',f,u,w',h',es⟩) k1 k2 k3 k4 k5
   refine hW.loopS _ _ _ [.bx 6 [.int .i64,.int .i64,.int .i64,.list .str],.sl 61 .dp (.int .i64)] (fun ys=>∃i:Nat,ys=[.agg [.int .i64 n',.int .i64 w,.int .i64 h,.list (ye rs (es.take i))],.int .i64 i]∧i≤es.length) (fun ys=>es.length - (nth ys 1).I.toNat) ?_ ?_
   ·simp[-List.getD_eq_getElem?_getD,zAO,zBp]
    exact⟨0,⟨by simp[ye],rfl⟩,by simp⟩
   ·rintro ys ⟨i,rfl,q1⟩
    refine hW.vc [(1,[11],tkN [0,1,2,3,4,5,6,7] (.alt 8 (tkN [9] (alN [10,11] .done)) (alN [10,8] (tkN [9] (alS 11 .done))))),(5,[8],tkN [0,1,2,3,4,5] (alS 6 (tkN [7] (alS 8 .done))))] _ _ ?_
    simp[-List.getD_eq_getElem?_getD,zAO,zBp,MR.pv]
    have hpl:=zAl (es.take i) rs
    have hol:(rs.length:Int)=h':=by have:=g4 k5;omega
    rw[zC (n:=(i:Int)+1) (by omega),hpl]
    refine⟨fun q2=>⟨q2,fun _ _ _=>⟨⟨(hup i q2).1,by have:=(hup i q2).2;omega⟩,by have:=hup i q2;omega,⟨i+1,⟨(zCh q2).symm,by omega⟩,by omega⟩,by omega⟩⟩,fun q2=>by rw[hb,List.take_of_length_le q2];simp⟩
def yc(m:MR)(v:VW):MR × Int:=if zGd m.ls=false∨zCa v.ls=false then (MR.no,1) else zAd m v
theorem zON{m:MR}{v:VW}(h:zGd m.ls=false∨zCa v.ls=false):yc m v=(MR.no,1):=if_pos h
theorem zEQ{m:MR}{v:VW}(h:zGd m.ls=true)(h':zCa v.ls=true):yc m v=zAd m v:=if_neg (by simp[h,h'])
def zAa:zS:=⟨[(.rd,.agg [.int .i64,.int .i64,.int .i64,.list .str]),(.rd,.agg [.int .i64,.int .i64,.bool,.int .i64,.int .i64,.list (.agg [.int .i64,.str])])],[.agg [.int .i64,.int .i64,.int .i64,.list .str],.int .i64],true,fun _=>True,
 fun ps=>[(yc ⟨(nth (nth ps 0).A 0).I,(nth (nth ps 0).A 1).I,(nth (nth ps 0).A 2).I,(nth (nth ps 0).A 3).L⟩ ⟨(nth (nth ps 1).A 0).I,(nth (nth ps 1).A 1).I,(nth (nth ps 1).A 2).B,(nth (nth ps 1).A 3).I,(nth (nth ps 1).A 4).I,(nth (nth ps 1).A 5).L⟩).1.pv,
  .int .i64 (yc ⟨(nth (nth ps 0).A 0).I,(nth (nth ps 0).A 1).I,(nth (nth ps 0).A 2).I,(nth (nth ps 0).A 3).L⟩ ⟨(nth (nth ps 1).A 0).I,(nth (nth ps 1).A 1).I,(nth (nth ps 1).A 2).B,(nth (nth ps 1).A 3).I,(nth (nth ps 1).A 4).I,(nth (nth ps 1).A 5).L⟩).2],fun _=>[]⟩
theorem zHb:yQ Tryz.prog 11 zAa:=by
 refine zf [0,1,2,3,4,5] [.cell 4 35,.tmp 5] (zA (cs:=[]) zLB (zA (cs:=[]) zKL (zA (cs:=[]) zEf (zI (zF []))))) zc Tryz.func11 rfl (by decide) rfl (by decide) rfl ?_
 intro ps hT hpre W hW
 simp only[zAa,TyA,Ty,Tys] at hT hpre
 obtain⟨_,_,rfl,⟨_,rfl,_,_,rfl,⟨n,rfl,hn⟩,_,_,rfl,⟨w,rfl,hw⟩,_,_,rfl,⟨h,rfl,hh⟩,_,_,rfl,⟨rs,rfl,hrs,trs⟩,rfl⟩,_,_,rfl,⟨_,rfl,_,_,rfl,⟨n',rfl,hn'⟩,_,_,rfl,⟨f,rfl,hf⟩,_,_,rfl,⟨u,rfl⟩,_,_,rfl,⟨w',rfl,hw'⟩,_,_,rfl,⟨h',rfl,hh'⟩,_,_,rfl,⟨es,rfl,hes,tes⟩,rfl⟩,rfl⟩:=hT
 refine hW.vc [] _ _ ?_
 simp[-List.getD_eq_getElem?_getD,zAa,zm,zAZ,zAO,MR.pv]
 refine⟨fun q1=>by rw[zON (m:=⟨n,w,h,rs⟩) (v:=⟨n',f,u,w',h',es⟩) q1];simp[MR.no],fun q1 q2=>⟨⟨q1,q2⟩,?_⟩⟩
 rw[zEQ (m:=⟨n,w,h,rs⟩) (v:=⟨n',f,u,w',h',es⟩) q1 q2]
 simp
theorem zPc{w h:Int}{es:List PV}(hu:upB w h (-1) es=true)(hl:(es.length:Int)=h):ye (List.replicate h.toNat (.str [])) es=es.map fun e=>.str (nth e.A 1).S:=by
 have h1:=zLb hu (by omega) (by omega)
 have h2:=zJ3 (out:=List.replicate h.toNat (.str [])) (fun i hi=>by rw[h1 i hi];omega) (by simp;omega) es.length (Nat.le_refl _)
 rwa[List.take_of_length_le (Nat.le_refl _),List.take_of_length_le (by rw[zAl];simp;omega)] at h2
end
end Go.Proofs.YtdmbfkooebldcaaGreatDoor
