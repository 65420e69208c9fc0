/-
  Part 9: contracts of functions, and the laws by which they are proved.
  Conditions: none.
-/
import Derived.Test.YtdmbfkooebldcaaGreatDoorW7
import Derived.Test.YtdmbfkooebldcaaGreatDoorW8
set_option linter.unusedVariables false
set_option linter.unusedSimpArgs false
set_option linter.unusedSectionVars false
set_option maxRecDepth 100000
namespace Go.Proofs.YtdmbfkooebldcaaGreatDoor
section
variable [zZ]
def zGX(c:UInt8)(l:List UInt8):List UInt8:=(l.reverse.dropWhile (· == c)).reverse
theorem zCv(c x:UInt8)(l:List UInt8):zGX c (l++[x])=if x=c then zGX c l else l++[x]:=by
 unfold zGX
 rw[List.reverse_append,List.reverse_singleton,List.singleton_append,List.dropWhile_cons]
 by_cases h:x=c
 ·simp[h]
 ·simp[h]
theorem zIy{l:List UInt8}(h:0 < l.length):l=l.take (l.length - 1)++[l.getD (l.length - 1) 0]:=by
 have h1:=List.take_append_drop (l.length - 1) l
 have h2:l.drop (l.length - 1)=[l.getD (l.length - 1) 0]:=by
  rw[List.drop_eq_getElem_cons (by omega),List.drop_eq_nil_of_le (by omega)]
  simp[List.getD_eq_getElem?_getD,List.getElem?_eq_getElem (by omega:l.length - 1 < l.length)]
 rw[h2] at h1;exact h1.symm
def yW:zS:=⟨[(.rd,.str),(.rd,.int .u8)],[.str],true,fun _=>True,fun ps=>[.str (zGX (UInt8.ofNat (nth ps 1).I.toNat) (nth ps 0).S)],fun _=>[]⟩
theorem zF3:yQ Tryz.prog 60 yW:=by
 refine zf [0,1,4] [.tmp 4] (zI (zF [])) zc Tryz.func60 rfl (by decide) rfl (by decide) rfl ?_
 intro ps hT hpre W hW
 simp only[yW,TyA,Ty,Tys] at hT hpre
 obtain⟨_,_,rfl,⟨s,rfl,hs⟩,_,_,rfl,⟨c,rfl,hc⟩,rfl⟩:=hT
 have hc':((UInt8.ofNat c.toNat).toNat:Int)=c:=by
  simp[inR,IntKind.min,IntKind.max,IntKind.signed,IntKind.bits] at hc
  rw[UInt8.toNat_ofNat',Nat.mod_eq_of_lt (by omega)];omega
 generalize hd:UInt8.ofNat c.toNat=d at *
 refine hW.vc [] _ _ ?_
 simp[-List.getD_eq_getElem?_getD,yW]
 refine hW.loopS _ _ _ [.sl 0 .dp .str] (fun ys=>∃r,ys=[.str r]∧r.length≤s.length∧zGX d s=zGX d r) (fun ys=>(nth ys 0).S.length) ?_ ?_
 ·simp[-List.getD_eq_getElem?_getD,yW]
 ·rintro ys ⟨r,rfl,h1,h2⟩
  refine hW.vc [] _ _ ?_
  simp[-List.getD_eq_getElem?_getD,yW]
  intro hr _
  have e1:((0:Int) < r.length)→IntKind.i64.wrap ((r.length:Int) - 1)=((r.length - 1:Nat):Int):=fun h=>by rw[zC (by omega)];omega
  refine⟨fun h=>?_,fun h h3 _=>?_,fun h=>?_⟩
  ·rw[e1 (by omega)];omega
  ·rw[e1 (by omega),Int.toNat_natCast] at h3 ⊢
   have h4:r.getD (r.length - 1) 0=d:=UInt8.toNat_inj.1 (by omega)
   refine⟨by omega,⟨by omega,?_⟩,by omega⟩
   rw[h2]
   conv=>lhs;rw[zIy h]
   rw[zCv,if_pos h4]
  ·rw[hd,h2]
   by_cases h0:0 < r.length
   ·have h3:=h h0
    rw[e1 (by omega),Int.toNat_natCast] at h3
    have h4:¬r.getD (r.length - 1) 0=d:=fun e=>h3 (by rw[e];exact hc')
    conv=>lhs;rw[zIy h0]
    conv=>rhs;rw[zIy h0]
    rw[zCv,if_neg h4]
   ·have:=List.eq_nil_of_length_eq_zero (by omega:r.length=0)
    subst this;rfl
def yD:zS:=⟨[(.rd,.str),(.rd,.str)],[.str],true,fun ps=>(nth ps 1).S=[32],fun ps=>[.str (zGX 32 (nth ps 0).S)],fun _=>[]⟩
theorem zJQ:yQ Tryz.prog 44 yD:=by
 refine zf [0,1,4,5,6] [.tmp 4] (zA (cs:=[]) zF3 (zI (zF []))) zc Tryz.func44 rfl (by decide) rfl (by decide) rfl ?_
 intro ps hT hpre W hW
 simp only[yD,TyA,Ty,Tys] at hT hpre
 obtain⟨_,_,rfl,⟨s,rfl,hs⟩,_,_,rfl,⟨t,rfl,ht⟩,rfl⟩:=hT
 simp only[zE,zG,zE4] at hpre
 subst hpre
 refine hW.vc [] _ _ ?_
 simp[-List.getD_eq_getElem?_getD,yD,yW]
 have e:(([32]:List UInt8).getD 0 0)=32:=rfl
 rw[e]
 exact⟨fun h=>by rw[h];rfl,fun _=>⟨fun _=>rfl,fun h=>absurd h (by decide)⟩⟩
def zGZ:Nat→List UInt8→List UInt8
 | 0,_=>[]
 | n+1,c=>zCM (zDK (c.take 3))++zGZ n (c.drop 4)
theorem zBy{r:Int}:1≤(zCM r).length∧(zCM r).length≤4:=by
 unfold zCM zCL
 split
 ·simp
 ·split
  ·simp
  ·split<;>simp
theorem zLt{r:Int}(h:zAF r=true)(h32:r≠32):∃p b,zCM r=p++[b]∧b≠32:=by
 simp only[zAF,inB,Bool.and_eq_true,decide_eq_true_eq] at h
 have key:∀z:Int,0≤z→z < 256→z≠32→UInt8.ofNat z.toNat≠32:=by
  intro z h0 h1 h2 e
  have:=congrArg UInt8.toNat e
  rw[UInt8.toNat_ofNat',Nat.mod_eq_of_lt (by omega)] at this
  have:z.toNat=32:=this
  omega
 unfold zCM zCL
 split
 ·exact⟨[],_,rfl,key _ (by omega) (by omega) h32⟩
 ·split
  ·exact⟨[_],_,rfl,key _ (by omega) (by omega) (by omega)⟩
  ·split
   ·exact⟨[_,_],_,rfl,key _ (by omega) (by omega) (by omega)⟩
   ·exact⟨[_,_,_],_,rfl,key _ (by omega) (by omega) (by omega)⟩
theorem zG6{r:Int}(h:zAF r=true):32≤r∧r≤1114111∧(r < 55296∨57343 < r):=by
 simp[zAF,inB] at h
 omega
def zV:zS:=⟨[(.rd,.str)],[.str],true,fun ps=>zFj (nth ps 0).S=true∧(nth ps 0).S≠[]∧(nth ps 0).S.length≤4000∧(nth ps 0).S.length % 4=0,fun ps=>[.str (zGX 32 (zGZ ((nth ps 0).S.length / 4) (nth ps 0).S))],fun _=>[]⟩
theorem zK9:yQ Tryz.prog 30 zV:=by
 refine zIY [0,2,3] [.tmp 2] _ bG (zA (cs:=[]) zJQ (zA (cs:=[]) zF4 (zI (zF [])))) zc Tryz.func30 rfl (by decide) rfl (by decide) rfl ?_
 intro ps hT hpre W hW hB
 simp only[zV,TyA,Ty,Tys] at hT hpre
 obtain⟨_,_,rfl,⟨c,rfl,hc⟩,rfl⟩:=hT
 simp only[zE,zE4] at hpre
 obtain⟨p1,p2,p3,p4⟩:=hpre
 refine hW.vc [] _ _ ?_
 simp[-List.getD_eq_getElem?_getD,zV,zq,yD,zp,zp]
 refine hB.bld _ _ _ _ _ ?_
 simp[-List.getD_eq_getElem?_getD,zV,zq,yD,zp,zS0,zJW,zSy,zSz,bfWR,zM3]
 refine hW.vc [] _ _ ?_
 simp[-List.getD_eq_getElem?_getD,zV,zq,yD,zp,zp]
 refine hW.loopS _ _ _ [.bl 3,.sl 0 .dp .str] (fun ys=>∃out rest,ys=[.str out,.str rest]∧zFj rest=true∧rest.length % 4=0∧out.length+rest.length≤c.length∧zGZ (c.length / 4) c=out++zGZ (rest.length / 4) rest) (fun ys=>(nth ys 1).S.length) ?_ ?_
 ·simp[-List.getD_eq_getElem?_getD,zV,zq,yD,zp]
  exact⟨[],c,⟨rfl,rfl⟩,p1,p4,by simp,rfl⟩
 ·rintro ys ⟨out,rest,rfl,g1,g2,g3,g4⟩
  refine hW.vc [] _ _ ?_
  simp[-List.getD_eq_getElem?_getD,zV,zq,yD,zp,zp]
  refine⟨fun g5=>?_,fun g5=>?_⟩
  ·have g6:=List.length_pos_iff.2 g5
   have g7:4≤rest.length:=by omega
   rw[zB0 g7,Bool.and_eq_true,Bool.and_eq_true] at g1
   obtain⟨⟨g8,_⟩,g9⟩:=g1
   obtain⟨q1,q2,q3⟩:=zG6 g8
   have hw:IntKind.i32.wrap (zDK (rest.take 3))=zDK (rest.take 3):=by
    simp[IntKind.wrap,IntKind.signed,IntKind.bits];omega
   rw[hw]
   refine⟨by omega,by omega,hB.bld _ _ _ _ _ ?_⟩
   simp[-List.getD_eq_getElem?_getD,zV,zq,yD,zp,zS0,zJW,zSy,zSz,bfWR,zM3]
   refine⟨⟨by omega,q2,q3⟩,by omega,?_⟩
   refine hW.vc [] _ _ ?_
   simp[-List.getD_eq_getElem?_getD,zV,zq,yD,zp,zp]
   have hl:=(zBy (r:=zDK (rest.take 3))).2
   refine⟨by omega,⟨_,_,⟨rfl,rfl⟩,?_,by simp;omega,by simp;omega,?_⟩,by omega⟩
   ·rw[List.take_of_length_le (by simp)];exact g9
   ·rw[List.take_of_length_le (l:=rest.drop 4) (by simp),g4,List.append_assoc]
    congr 1
    have e:rest.length / 4=(rest.drop 4).length / 4+1:=by rw[List.length_drop];omega
    rw[e,zGZ]
  ·subst g5
   rw[List.length_nil,Nat.zero_div,zGZ,List.append_nil] at g4
   have hne:out≠[]:=by
    rw[←g4]
    obtain⟨k,hk⟩:∃k,c.length / 4=k+1:=⟨c.length / 4 - 1,by have:=List.length_pos_iff.2 p2;omega⟩
    rw[hk,zGZ]
    intro e
    have:=(List.append_eq_nil_iff.1 e).1
    have h1:=(zBy (r:=zDK (c.take 3))).1
    rw[this] at h1;simp at h1
   refine hB.bld _ _ _ _ _ ?_
   simp[-List.getD_eq_getElem?_getD,zV,zq,yD,zp,zS0,zJW,zSy,zSz,bfWR,zM3]
   simp only[List.length_nil] at g3
   refine⟨by omega,?_⟩
   refine hW.vc [] _ _ ?_
   simp[-List.getD_eq_getElem?_getD,zV,zq,yD,zp,zp]
   rw[g4]
def zDx(es:List PV):List PV:=es.map fun e=>.str (zGX 32 (zGZ (e.S.length / 4) e.S))
theorem zH2(es:List PV):(zDx es).length=es.length:=by simp[zDx]
def zNE(v:List PV):List PV × Int:=if zGd v=true then (zDx (nth v 3).L,0) else ([],1)
theorem zKC{v:List PV}(h:zGd v=true):(nth v 3).L.length≤10∧∀e∈(nth v 3).L,zFj e.S=true∧e.S≠[]∧e.S.length≤4000∧e.S.length % 4=0:=by
 unfold zGd at h
 split at h
 ·simp only[Bool.and_eq_true,decide_eq_true_eq] at h
  have:=List.eq_nil_of_length_eq_zero h.2
  rw[this];simp
 ·simp only[Bool.and_eq_true] at h
  obtain⟨⟨_,h1⟩,h2⟩:=h
  simp only[zAT,Bool.and_eq_true,decide_eq_true_eq,List.all_eq_true] at h2
  simp only[zAP,inB,Bool.and_eq_true,decide_eq_true_eq] at h1
  refine⟨by omega,fun e he=>?_⟩
  have h3:=h2.2 e he
  simp only[zGV,Bool.and_eq_true,decide_eq_true_eq] at h3
  refine⟨h3.2,fun e0=>?_,by omega,by omega⟩
  rw[e0] at h3;simp at h3;omega
def zh:zS:=⟨[(.rd,.agg [.int .i64,.int .i64,.int .i64,.list .str])],[.list .str,.int .i64],true,fun _=>True,fun ps=>[.list (zNE (nth ps 0).A).1,.int .i64 (zNE (nth ps 0).A).2],fun _=>[]⟩
theorem zHa:yQ Tryz.prog 14 zh:=by
 refine zf [0,1,2,3,4,6,11,12,13] [.tmp 2,.tmp 3] (zA (cs:=[]) zK9 (zA (cs:=[]) zEf (zI (zF [])))) zc Tryz.func14 rfl (by decide) rfl (by decide) rfl ?_
 intro ps hT hpre W hW
 simp only[zh,TyA,Ty,Tys] at hT hpre
 obtain⟨_,_,rfl,⟨_,rfl,_,_,rfl,⟨n,rfl,hn⟩,_,_,rfl,⟨w,rfl,hw⟩,_,_,rfl,⟨h,rfl,hh⟩,_,_,rfl,⟨es,rfl,hes,tes⟩,rfl⟩,rfl⟩:=hT
 refine hW.vc [] _ _ ?_
 simp[-List.getD_eq_getElem?_getD,zh,zm,zV]
 refine⟨fun g1=>by rw[zNE,if_neg (by simp[g1])];simp,fun g1 g2=>?_⟩
 have hm:=zKC g1
 simp only[zE,zG,zBf] at hm
 have hT:zNE [PV.int .i64 n,.int .i64 w,.int .i64 h,.list es]=(zDx es,0):=by rw[zNE,if_pos g1];rfl
 refine hW.loopS _ _ _ [.sl 4 .dp (.list .str),.sl 13 .dp (.int .i64)] (fun ys=>∃i:Nat,ys=[.list (zDx (es.take i)),.int .i64 i]∧i≤es.length) (fun ys=>es.length - (nth ys 1).I.toNat) ?_ ?_
 ·simp[-List.getD_eq_getElem?_getD,zh,zm,zV]
  exact⟨0,⟨by simp[zDx],rfl⟩,by omega⟩
 ·rintro ys ⟨i,rfl,h2⟩
  refine hW.vc [] _ _ ?_
  simp[-List.getD_eq_getElem?_getD,zh,zm,zV]
  rw[zH2,List.length_take,zC (n:=(i:Int)+1) (by omega)]
  refine⟨fun h3=>⟨h3,fun _=>⟨hm.2 _ (yR h3),by omega,fun _=>⟨⟨i+1,⟨?_,by omega⟩,by omega⟩,by omega⟩⟩⟩,fun h3=>?_⟩
  ·rw[zBh h3,zDx,zDx,List.map_append];rfl
  ·rw[hT,List.take_of_length_le h3];exact⟨rfl,rfl⟩
def zBG:zS:=⟨[(.rd,.int .i64)],[.str],true,fun ps=>zAF (nth ps 0).I=true,fun ps=>[.str (zCM (nth ps 0).I)],fun _=>[]⟩
theorem zKJ:yQ Tryz.prog 47 zBG:=by
 refine zf [0,2] [.tmp 2] (zI (zF [])) zc Tryz.func47 rfl (by decide) rfl (by decide) rfl ?_
 intro ps hT hpre W hW
 simp only[zBG,TyA,Ty,Tys] at hT hpre
 obtain⟨_,_,rfl,⟨r,rfl,hr⟩,rfl⟩:=hT
 simp only[zE,yu] at hpre
 obtain⟨q1,q2,q3⟩:=zG6 hpre
 refine hW.vc [] _ _ ?_
 simp[-List.getD_eq_getElem?_getD,zBG]
 have d0:∀k:Int,r.tdiv k=r / k:=fun k=>Int.tdiv_eq_ediv_of_nonneg (by omega)
 have m0:∀k:Int,r.tmod k=r % k:=fun k=>Int.tmod_eq_emod_of_nonneg (by omega)
 have m1:∀k:Int,0≤k→(IntKind.i64.wrap (r / k)).tmod 64=r / k % 64:=fun k hk=>by
  have h1:r / k≤r:=Int.ediv_le_self _ (by omega)
  have h2:0≤r / k:=Int.ediv_nonneg (by omega) hk
  rw[zC (by omega),Int.tmod_eq_emod_of_nonneg h2]
 have w1:∀n:Int,0≤n→n≤255→IntKind.u8.wrap (IntKind.i64.wrap n)=n:=fun n h1 h2=>by rw[zC (by omega),zOk ⟨h1,h2⟩]
 simp only[d0,m0,m1 64 (by omega),m1 4096 (by omega)]
 refine⟨fun h=>?_,fun h=>⟨fun h2=>⟨rfl,?_⟩,fun h2=>⟨fun h3=>⟨rfl,?_⟩,fun h3=>⟨rfl,?_⟩⟩⟩⟩
 ·rw[zOk (by omega),zCM,zCL,if_pos h];rfl
 ·rw[zC (n:=r / 64) (by omega),w1 _ (by omega) (by omega),w1 _ (by omega) (by omega),zCM,zCL,if_neg (by omega),if_pos h2];rfl
 ·rw[zC (n:=r / 4096) (by omega),w1 _ (by omega) (by omega),w1 _ (by omega) (by omega),w1 _ (by omega) (by omega),zCM,zCL,if_neg (by omega),if_neg (by omega),if_pos h3];rfl
 ·rw[zC (n:=r / 262144) (by omega),w1 _ (by omega) (by omega),w1 _ (by omega) (by omega),w1 _ (by omega) (by omega),w1 _ (by omega) (by omega),zCM,zCL,if_neg (by omega),if_neg (by omega),if_neg (by omega)];rfl
theorem zH4:∀(i:Nat) (c:List UInt8),zGZ (i+1) c=zGZ i c++zCM (zDK ((c.drop (4*i)).take 3))
 | 0,c=>by simp[zGZ]
 | i+1,c=>by
  rw[zGZ,zH4 i (c.drop 4),zGZ,List.append_assoc,List.drop_drop]
  have e:4+4*i=4*(i+1):=by omega
  rw[e]
theorem zJ1:∀(i:Nat) (c:List UInt8),(zGZ i c).length≤4*i
 | 0,c=>by simp[zGZ]
 | i+1,c=>by
  have h1:=zJ1 i (c.drop 4)
  have h2:=(zBy (r:=zDK (c.take 3))).2
  rw[zGZ,List.length_append];omega
def zA1:zS:=zV
theorem zMS:yQ Tryz.prog 32 zA1:=by
 refine zf [0,2,3,4,5,6] [.tmp 2] (zA (cs:=[]) zKJ (zA (cs:=[]) zMX (zI (zF [])))) zc Tryz.func32 rfl (by decide) rfl (by decide) rfl ?_
 intro ps hT hpre W hW
 simp only[zA1,TyA,Ty,Tys] at hT hpre
 simp only[zV,TyA,Ty,Tys] at hT hpre
 obtain⟨_,_,rfl,⟨c,rfl,hc⟩,rfl⟩:=hT
 simp only[zE,zE4] at hpre
 obtain⟨p1,p2,p3,p4⟩:=hpre
 refine hW.vc [] _ _ ?_
 simp[-List.getD_eq_getElem?_getD,zA1,zp,zBG,zV,zV]
 refine hW.loopS _ _ _ [.sl 3 .dp .str,.sl 4 .dp (.int .i64),.sl 5 .dp (.int .i64)] (fun ys=>∃i e:Nat,ys=[.str (zGZ i c),.int .i64 e,.int .i64 (4*i:Nat)]∧4*i≤c.length∧zFj (c.drop (4*i))=true∧e≤(zGZ i c).length∧(zGZ i c).take e=zGX 32 (zGZ i c)) (fun ys=>c.length - (nth ys 2).I.toNat) ?_ ?_
 ·simp[-List.getD_eq_getElem?_getD,zA1,zp,zBG,zV,zV]
  exact⟨0,0,⟨rfl,rfl,rfl⟩,by omega,by simpa using p1,by omega,rfl⟩
 ·rintro ys ⟨i,e,rfl,g1,g2,g3,g4⟩
  refine hW.vc [] _ _ ?_
  simp[-List.getD_eq_getElem?_getD,zA1,zp,zBG,zV,zV]
  have a1:IntKind.i64.wrap (4*(i:Int)+3)=(4*i+3:Nat):=by rw[zC (by omega)];omega
  have a4:IntKind.i64.wrap (4*(i:Int)+4)=(4*(i+1):Nat):=by rw[zC (by omega)];omega
  have a2:(((4*i+3:Nat):Int)).toNat - (4*(i:Int)).toNat=3:=by omega
  have a3:(4*(i:Int)).toNat=4*i:=by omega
  rw[a1,a2,a3,a4]
  have hsn:=zH4 i c
  have hlr:=zJ1 i c
  refine fun _=>⟨fun h=>?_,fun h=>⟨g3,?_⟩⟩
  ·have g5:4≤(c.drop (4*i)).length:=by rw[List.length_drop];omega
   rw[zB0 g5,Bool.and_eq_true,Bool.and_eq_true,List.drop_drop] at g2
   obtain⟨⟨g8,_⟩,g9⟩:=g2
   have e4:4*i+4=4*(i+1):=by omega
   rw[e4] at g9
   generalize hr:zDK ((c.drop (4*i)).take 3)=r at *
   have hl:=(zBy (r:=r)).2
   rw[←hsn]
   refine⟨by omega,by omega,g8,by omega,fun h32 _=>⟨⟨i+1,(zGZ (i+1) c).length,⟨rfl,?_,by omega⟩,by omega,g9,Nat.le_refl _,?_⟩,by omega⟩,fun h32=>⟨⟨i+1,e,⟨rfl,rfl,by omega⟩,by omega,g9,?_,?_⟩,by omega⟩⟩
   ·rw[hsn,List.length_append];omega
   ·rw[List.take_length]
    obtain⟨q,b,hq,hb⟩:=zLt g8 h32
    rw[hsn,hq,←List.append_assoc,zCv,if_neg hb]
   ·rw[hsn,List.length_append];omega
   ·subst h32
    have e32:zCM 32=[32]:=rfl
    rw[hsn,e32,zCv,if_pos rfl,List.take_append_of_le_length g3,g4]
  ·have e5:c.length / 4=i:=by omega
   rw[e5,g4]
def yr:zS:=zh
theorem zHZ:yQ Tryz.prog 15 yr:=by
 refine zf [0,1,2,3,4,5] [.tmp 2,.tmp 3] (zA (cs:=[]) zMS (zA (cs:=[]) zJJ (zI (zF [])))) zc Tryz.func15 rfl (by decide) rfl (by decide) rfl ?_
 intro ps hT hpre W hW
 simp only[yr,TyA,Ty,Tys] at hT hpre
 simp only[zh,TyA,Ty,Tys] at hT hpre
 obtain⟨_,_,rfl,⟨_,rfl,_,_,rfl,⟨n,rfl,hn⟩,_,_,rfl,⟨w,rfl,hw⟩,_,_,rfl,⟨h,rfl,hh⟩,_,_,rfl,⟨es,rfl,hes,tes⟩,rfl⟩,rfl⟩:=hT
 refine hW.vc [] _ _ ?_
 simp[-List.getD_eq_getElem?_getD,yr,zAp,zA1,zh,zm,zV,zm,zh,zV]
 refine⟨fun g1=>by rw[zNE,if_neg (by simp[g1])];simp,fun g1=>?_⟩
 have hm:=zKC g1
 simp only[zE,zG,zBf] at hm
 have hT:zNE [PV.int .i64 n,.int .i64 w,.int .i64 h,.list es]=(zDx es,0):=by rw[zNE,if_pos g1];rfl
 refine hW.loopS _ _ _ [.sl 4 .dp (.list .str),.sl 5 .dp (.int .i64)] (fun ys=>∃i:Nat,ys=[.list (zDx (es.take i)),.int .i64 i]∧i≤es.length) (fun ys=>es.length - (nth ys 1).I.toNat) ?_ ?_
 ·simp[-List.getD_eq_getElem?_getD,yr,zAp,zA1,zh,zm,zV,zm,zh,zV]
  exact⟨0,⟨by simp[zDx],rfl⟩,by omega⟩
 ·rintro ys ⟨i,rfl,h2⟩
  refine hW.vc [] _ _ ?_
  simp[-List.getD_eq_getElem?_getD,yr,zAp,zA1,zh,zm,zV,zm,zh,zV]
  rw[zH2,List.length_take,zC (n:=(i:Int)+1) (by omega)]
  refine fun _=>⟨fun h3=>⟨h3,fun _=>⟨hm.2 _ (yR h3),by omega,fun _=>⟨⟨i+1,⟨?_,by omega⟩,by omega⟩,by omega⟩⟩⟩,fun h3=>?_⟩
  ·rw[zBh h3,zDx,zDx,List.map_append];rfl
  ·rw[hT,List.take_of_length_le h3];exact⟨rfl,rfl⟩
end
section
variable [zZ]
def zBB(x:Int):UInt8:=UInt8.ofNat (x % 256).toNat
theorem zDG(x:Int):((zBB x).toNat:Int)=x % 256:=by
 have h1:=Int.emod_nonneg x (show(256:Int)≠0 by omega)
 have h2:=Int.emod_lt_of_pos x (show(0:Int) < 256 by omega)
 unfold zBB
 rw[UInt8.toNat_ofNat',Nat.mod_eq_of_lt (by omega)]
 omega
theorem zKm(x:Int):IntKind.u8.wrap x=(zBB x).toNat:=by
 rw[zDG];simp[IntKind.wrap,IntKind.signed,IntKind.bits]
def nB(n:Int)(k:Nat):List UInt8:=(List.range k).map fun i=>zBB (n / 256 ^ (k - 1 - i))
theorem zGz(n:Int)(k:Nat):(nB n k).length=k:=by simp[nB]
theorem zPm{n:Int}{k i:Nat}(h:i < k):(nB n k).take (i+1)=(nB n k).take i++[zBB (n / 256 ^ (k - 1 - i))]:=by
 rw[List.take_succ_eq_append_getElem (by rw[zGz];exact h)];simp[nB]
theorem zDl(l:List UInt8):(zw l).length=l.length:=by simp[zw]
theorem zDm(l m:List UInt8):zw (l++m)=zw l++zw m:=by simp[zw]
theorem zJh(b:UInt8):zw [b]=[.int .u8 b.toNat]:=rfl
theorem zHN(l:List UInt8):zBS (zw l)=l:=by
 simp only[zBS,zw,List.map_map]
 conv=>rhs;rw[←List.map_id l]
 exact List.map_congr_left fun b _=>by simp[yu]
theorem shr8{n:Int}{i:Nat}(h:0≤n)(hi:i≤7):shrI .i64 n (8*i:Nat)=n / 256 ^ i:=by
 unfold shrI
 have e:min (((8*i:Nat):Int).toNat) IntKind.i64.bits=8*i:=by
  have:IntKind.i64.bits=64:=rfl
  rw[this,Int.toNat_natCast];omega
 rw[e,Int.fdiv_eq_ediv_of_nonneg _ (Int.pow_nonneg (by omega)),Int.pow_mul]
 rfl
def yn:zS:=⟨[(.rd,.int .i64),(.rd,.int .i64)],[.list (.int .u8)],true,fun ps=>0≤(nth ps 0).I∧0≤(nth ps 1).I∧(nth ps 1).I≤7,fun ps=>[.list (zw (nB (nth ps 0).I (nth ps 1).I.toNat))],fun _=>[]⟩
theorem zJM:yQ Tryz.prog 54 yn:=by
 refine zf [0,1,4,5,6] [.tmp 4] (zI (zF [])) zc Tryz.func54 rfl (by decide) rfl (by decide) rfl ?_
 intro ps hT hpre W hW
 simp only[yn,TyA,Ty,Tys] at hT hpre
 obtain⟨_,_,rfl,⟨n,rfl,hn⟩,_,_,rfl,⟨k,rfl,hk⟩,rfl⟩:=hT
 simp only[zE,zG,yu] at hpre
 obtain⟨hp1,hp2,hp3⟩:=hpre
 obtain⟨m,rfl⟩:=Int.eq_ofNat_of_zero_le hp2
 rw[inR64] at hn
 refine hW.vc [] _ _ ?_
 simp[-List.getD_eq_getElem?_getD,yn]
 refine hW.loopS _ _ _ [.sl 5 .dp (.list (.int .u8)),.sl 6 .dp (.int .i64)] (fun ys=>∃j:Nat,ys=[.list (zw ((nB n m).take (m - j))),.int .i64 (j - 1)]∧j≤m) (fun ys=>((nth ys 1).I+1).toNat) ?_ ?_
 ·simp[-List.getD_eq_getElem?_getD,yn]
  refine⟨m,⟨by simp[zw],by rw[zC (by omega)]⟩,by omega⟩
 ·rintro ys ⟨j,rfl,h1⟩
  refine hW.vc [] _ _ ?_
  simp[-List.getD_eq_getElem?_getD,yn]
  refine⟨fun h2=>?_,fun h2=>?_⟩
  ·have e0:(8*((j:Int) - 1))=((8*(j - 1):Nat):Int):=by omega
   have e1:IntKind.u64.wrap (IntKind.i64.wrap (8*((j:Int) - 1)))=((8*(j - 1):Nat):Int):=by
    rw[zC (by omega),e0]
    simp[IntKind.wrap,IntKind.signed,IntKind.bits];omega
   rw[e1,shr8 hp1 (by omega),zKm,zC (by omega),zDl,List.length_take,zGz]
   refine⟨by omega,by omega,fun _=>⟨⟨j - 1,⟨?_,by omega⟩,by omega⟩,by omega⟩⟩
   have h4:=zPm (n:=n) (show m - j < m by omega)
   have e2:m - 1 - (m - j)=j - 1:=by omega
   have e3:m - j+1=m - (j - 1):=by omega
   rw[e2,e3] at h4
   rw[h4,zDm,zJh]
  ·have:j=0:=by omega
   subst this
   rw[Nat.sub_zero,List.take_of_length_le (by rw[zGz];omega)]
def VW.ls'(v:VW):List PV:=[.int .i64 v.n,.int .i64 v.f,.bool v.u,.int .i64 v.w,.int .i64 v.h,.list v.r]
end
section
variable [zZ]
structure SC where
 w:Int
 h:Int
 x:Int
 y:Int
 look:Int
 top:Int
 bot:Int
 sx:Int
 sy:Int
 tit:List UInt8
 cs:List PV
 hist:List PV
def SC.pv(s:SC):PV:=.agg [.int .i64 s.w,.int .i64 s.h,.int .i64 s.x,.int .i64 s.y,.int .i64 s.look,.int .i64 s.top,.int .i64 s.bot,.int .i64 s.sx,.int .i64 s.sy,.str s.tit,.list s.cs,.list s.hist]
def zAj(v:List PV):SC:=⟨(nth v 0).I,(nth v 1).I,(nth v 2).I,(nth v 3).I,(nth v 4).I,(nth v 5).I,(nth v 6).I,(nth v 7).I,(nth v 8).I,(nth v 9).S,(nth v 10).L,(nth v 11).L⟩
def blC:PV:=.agg [.int .i64 32,.int .i64 0]
def cel(r l:Int):PV:=.agg [.int .i64 r,.int .i64 l]
def yp(a b:Int):Int:=if a < b then a else b
def zCI(a b:Int):Int:=if a < b then b else a
def zB6(cs:List PV)(a b:Nat):List PV:=cs.take a++(List.replicate (b - a) blC++cs.drop (a+(b - a)))
def upC(cs:List PV)(w a b:Nat):List PV:=cs.take (a*w)++((cs.drop ((a+1)*w)).take ((b - a)*w)++(List.replicate w blC++cs.drop ((b+1)*w)))
def dnC(cs:List PV)(w a b:Nat):List PV:=cs.take (a*w)++(List.replicate w blC++((cs.drop (a*w)).take ((b - a)*w)++cs.drop ((b+1)*w)))
def zFD(cs:List PV):List UInt8:=cs.flatMap fun c=>zCM (nth c.A 0).I
def zHu:List PV→List PV
 | []=>[]
 | c :: cs=>if zHu cs=[]∧(nth c.A 0).I=32 then [] else c :: zHu cs
def zFi(cs:List PV)(w y:Nat):List UInt8:=zFD (zHu ((cs.drop (y*w)).take w))
def zL0(hs:List PV)(t:List UInt8):List PV:=if 6 < hs.length+1 then (hs++[PV.str t]).drop 1 else hs++[PV.str t]
def upS(s:SC)(a b:Int)(keep:Bool):SC:=
 { s with hist:=if a=0∧keep=true then zL0 s.hist (zFi s.cs s.w.toNat 0) else s.hist,cs:=upC s.cs s.w.toNat a.toNat b.toNat }
def dnS(s:SC)(a b:Int):SC:={ s with cs:=dnC s.cs s.w.toNat a.toNat b.toNat }
def upN(a b:Int)(keep:Bool):Nat→SC→SC
 | 0,s=>s
 | n+1,s=>upN a b keep n (upS s a b keep)
def dnN(a b:Int):Nat→SC→SC
 | 0,s=>s
 | n+1,s=>dnN a b n (dnS s a b)
def dwn(s:SC):SC:=if s.y=s.bot then upS s s.top s.bot true else { s with y:=yp (s.h - 1) (s.y+1) }
def upw(s:SC):SC:=if s.y=s.top then dnS s s.top s.bot else { s with y:=zCI 0 (s.y - 1) }
def zGc(s:SC):SC:=if s.x=s.w then dwn { s with x:=0 } else s
def prt(s:SC)(r:Int):SC:={ zGc s with cs:=(zGc s).cs.set ((zGc s).y*(zGc s).w+(zGc s).x).toNat (cel r (zGc s).look),x:=(zGc s).x+1 }
def ctl(s:SC)(b:Int):SC:=
 if b=8 then { s with x:=zCI 0 (yp s.x (s.w - 1) - 1) } else if b=9 then { s with x:=yp (s.w - 1) ((s.x / 8+1)*8) } else if b=10 then dwn s else if b=13 then { s with x:=0 } else s
def zKy(w h:Int):SC:=⟨w,h,0,0,0,0,h - 1,0,0,[],List.replicate (w*h).toNat blC,[]⟩
def esc(s:SC)(b:Int):SC:=
 if b=55 then { s with sx:=s.x,sy:=s.y } else if b=56 then { s with x:=s.sx,y:=s.sy } else if b=68 then dwn s else if b=69 then dwn { s with x:=0 } else if b=77 then upw s
 else if b=99 then { zKy s.w s.h with hist:=s.hist } else s
def zKE(l n:Int):Int:=
 if n=0 then 0 else if n=1 then orI .i64 l 64 else if n=4 then orI .i64 l 32 else if n=7 then orI .i64 l 16 else if inB n 30 37 then orI .i64 (zPC .i64 l 112) (n - 29) else if n=39 then zPC .i64 l 112 else l
def yi(args:List PV)(i:Nat)(o:Int):Int:=if args.length≤i∨(nth args i).I < 0 then o else (nth args i).I
def zKz(l:Int):List PV→Int
 | []=>l
 | a :: la=>zKz (zKE l (zCI 0 a.I)) la
def atS(s:SC):Nat:=(s.y*s.w+yp s.x (s.w - 1)).toNat
def csi(s:SC)(k:Int)(la:List PV):SC:=
 let n:=zCI 1 (yi la 0 1)
 if k=65 then { s with y:=zCI 0 (s.y - n) } else if k=66 then { s with y:=yp (s.h - 1) (s.y+n) } else if k=67 then { s with x:=yp (s.w - 1) (s.x+n) }
 else if k=68 then { s with x:=zCI 0 (yp s.x (s.w - 1) - n) } else if k=72∨k=102 then { s with y:=yp (s.h - 1) (n - 1),x:=yp (s.w - 1) (zCI 1 (yi la 1 1) - 1) }
 else if k=74 then (if yi la 0 0=0 then { s with cs:=zB6 s.cs (atS s) (s.w*s.h).toNat } else if yi la 0 0=1 then { s with cs:=zB6 s.cs 0 (atS s+1) } else if yi la 0 0=2 then { s with cs:=zB6 s.cs 0 (s.w*s.h).toNat } else s)
 else if k=75 then (if yi la 0 0=0 then { s with cs:=zB6 s.cs (atS s) ((s.y+1)*s.w).toNat } else if yi la 0 0=1 then { s with cs:=zB6 s.cs (s.y*s.w).toNat (atS s+1) } else if yi la 0 0=2 then { s with cs:=zB6 s.cs (s.y*s.w).toNat ((s.y+1)*s.w).toNat } else s)
 else if k=76 then (if inB s.y s.top s.bot then { dnN s.y s.bot (yp n (s.bot - s.y+1)).toNat s with x:=0 } else s)
 else if k=77 then (if inB s.y s.top s.bot then { upN s.y s.bot false (yp n (s.bot - s.y+1)).toNat s with x:=0 } else s)
 else if k=83 then upN s.top s.bot true (yp n (s.bot - s.top+1)).toNat s
 else if k=84 then dnN s.top s.bot (yp n (s.bot - s.top+1)).toNat s
 else if k=109 then { s with look:=zKz s.look la }
 else if k=114 then (if n - 1 < yp s.h (yi la 1 s.h) - 1 then { s with top:=n - 1,bot:=yp s.h (yi la 1 s.h) - 1,x:=0,y:=0 } else s)
 else s
def doA(s:SC)(a:List PV):SC:=
 if (nth a 0).I=1 then prt s (nth a 1).I else if (nth a 0).I=2 then ctl s (nth a 1).I else if (nth a 0).I=3 then esc s (nth a 1).I
 else if (nth a 0).I=4 then (if (nth a 2).B=true then s else csi s (nth a 1).I (nth a 3).L) else if (nth a 0).I=5 then { s with tit:=(nth a 4).S } else s
def doL(s:SC):List PV→SC
 | []=>s
 | a :: la=>doL (doA s a.A) la
def zGa(cs:List PV):List UInt8:=cs.flatMap fun c=>nB (nth c.A 0).I 3++[zBB (nth c.A 1).I]
def ceI(c:PV):Prop:=∃r l:Int,c=cel r l∧32≤r∧r≤1114111∧r≠127∧¬(55296≤r∧r≤57343)∧0≤l∧l≤127
theorem zOH:ceI blC:=⟨32,0,rfl,by omega⟩
structure ScI (s:SC):Prop where
 w:2≤s.w∧s.w≤24
 h:2≤s.h∧s.h≤10
 x:0≤s.x∧s.x≤s.w
 y:0≤s.y∧s.y≤s.h - 1
 l:0≤s.look∧s.look≤127
 t:0≤s.top
 b:s.top < s.bot∧s.bot≤s.h - 1
 sx:0≤s.sx∧s.sx≤s.w
 sy:0≤s.sy∧s.sy≤s.h - 1
 n:s.cs.length=(s.w*s.h).toNat
 c:∀e∈s.cs,ceI e
 m:s.hist.length≤6
theorem zAE{a b:Int}:yp a b≤a∧yp a b≤b∧(yp a b=a∨yp a b=b):=by unfold yp;split<;>omega
theorem zCj{a b:Int}:a≤zCI a b∧b≤zCI a b∧(zCI a b=a∨zCI a b=b):=by unfold zCI;split<;>omega
theorem zA8{cs:List PV}{a b:Nat}(h:b≤cs.length)(hab:a≤b):(zB6 cs a b).length=cs.length:=by
 simp only[zB6,List.length_append,List.length_take,List.length_replicate,List.length_drop];omega
theorem zLO{cs:List PV}{a b:Nat}(h:∀e∈cs,ceI e):∀e∈zB6 cs a b,ceI e:=by
 intro e he
 simp only[zB6,List.mem_append] at he
 rcases he with q | q | q
 ·exact h e (List.mem_of_mem_take q)
 ·rw[List.eq_of_mem_replicate q];exact zOH
 ·exact h e (List.mem_of_mem_drop q)
theorem zHj{w h a b:Nat}(hb:b < h)(hab:a≤b):a*w≤b*w∧(a+1)*w+(b - a)*w=(b+1)*w∧(b+1)*w≤h*w∧(b+1)*w=b*w+w:=by
 refine⟨Nat.mul_le_mul_right w hab,?_,Nat.mul_le_mul_right w hb,by rw[Nat.add_mul,Nat.one_mul]⟩
 rw[←Nat.add_mul];congr 1;omega
theorem zLc{cs:List PV}{w h a b:Nat}(hc:cs.length=h*w)(hb:b < h)(hab:a≤b):(upC cs w a b).length=cs.length:=by
 obtain⟨q1,q2,q3,q4⟩:=zHj (w:=w) hb hab
 have q5:(a+1)*w=a*w+w:=by rw[Nat.add_mul,Nat.one_mul]
 simp only[upC,List.length_append,List.length_take,List.length_replicate,List.length_drop];omega
theorem zMt{cs:List PV}{w h a b:Nat}(hc:cs.length=h*w)(hb:b < h)(hab:a≤b):(dnC cs w a b).length=cs.length:=by
 obtain⟨q1,q2,q3,q4⟩:=zHj (w:=w) hb hab
 have q5:(a+1)*w=a*w+w:=by rw[Nat.add_mul,Nat.one_mul]
 simp only[dnC,List.length_append,List.length_take,List.length_replicate,List.length_drop];omega
theorem up_c{cs:List PV}{w a b:Nat}(h:∀e∈cs,ceI e):∀e∈upC cs w a b,ceI e:=by
 intro e he
 simp only[upC,List.mem_append] at he
 rcases he with q | q | q | q
 ·exact h e (List.mem_of_mem_take q)
 ·exact h e (List.mem_of_mem_drop (List.mem_of_mem_take q))
 ·rw[List.eq_of_mem_replicate q];exact zOH
 ·exact h e (List.mem_of_mem_drop q)
theorem dn_c{cs:List PV}{w a b:Nat}(h:∀e∈cs,ceI e):∀e∈dnC cs w a b,ceI e:=by
 intro e he
 simp only[dnC,List.mem_append] at he
 rcases he with q | q | q | q
 ·exact h e (List.mem_of_mem_take q)
 ·rw[List.eq_of_mem_replicate q];exact zOH
 ·exact h e (List.mem_of_mem_drop (List.mem_of_mem_take q))
 ·exact h e (List.mem_of_mem_drop q)
theorem zPe{hs:List PV}{t:List UInt8}(h:hs.length≤6):(zL0 hs t).length≤6:=by
 unfold zL0
 split
 ·simp;omega
 ·simp;omega
theorem ScI.nn{s:SC}(h:ScI s):s.cs.length=s.h.toNat*s.w.toNat:=by
 have w:=h.w;have h':=h.h
 rw[h.n,←Int.toNat_mul (by omega) (by omega),Int.mul_comm]
theorem ScI.put{s:SC}(h:ScI s){cs hist:List PV}(hc:cs.length=s.cs.length)(hi:∀e∈cs,ceI e)(hm:hist.length≤6):ScI { s with cs:=cs,hist:=hist }:=
 ⟨h.w,h.h,h.x,h.y,h.l,h.t,h.b,h.sx,h.sy,hc.trans h.n,hi,hm⟩
theorem ScI.go{s:SC}(h:ScI s){x y:Int}(hx:0≤x∧x≤s.w)(hy:0≤y∧y≤s.h - 1):ScI { s with x:=x,y:=y }:=
 ⟨h.w,h.h,hx,hy,h.l,h.t,h.b,h.sx,h.sy,h.n,h.c,h.m⟩
theorem zRc{s:SC}(h:ScI s){a b:Int}{k:Bool}(ha:0≤a)(hab:a≤b)(hb:b≤s.h - 1):ScI (upS s a b k):=by
 have h':=h.h
 refine h.put (zLc h.nn (by omega) (by omega)) (up_c h.c) ?_
 split
 ·exact zPe h.m
 ·exact h.m
theorem dn_I{s:SC}(h:ScI s){a b:Int}(ha:0≤a)(hab:a≤b)(hb:b≤s.h - 1):ScI (dnS s a b):=by
 have h':=h.h
 exact h.put (zMt h.nn (by omega) (by omega)) (dn_c h.c) h.m
theorem zPO{a b:Int}{k:Bool}(ha:0≤a)(hab:a≤b):∀{n:Nat} {s:SC},ScI s→b≤s.h - 1→ScI (upN a b k n s)
 | 0,_,h,_=>h
 | n+1,s,h,hb=>zPO (n:=n) ha hab (zRc h ha hab hb) hb
theorem zP1{a b:Int}(ha:0≤a)(hab:a≤b):∀{n:Nat} {s:SC},ScI s→b≤s.h - 1→ScI (dnN a b n s)
 | 0,_,h,_=>h
 | n+1,s,h,hb=>zP1 (n:=n) ha hab (dn_I h ha hab hb) hb
theorem zJv{a b:Int}{k:Bool}:∀{n:Nat} {s:SC},(upN a b k n s).w=s.w∧(upN a b k n s).h=s.h∧(upN a b k n s).y=s.y∧(upN a b k n s).x=s.x
 | 0,_=>⟨rfl,rfl,rfl,rfl⟩
 | n+1,s=>zJv (n:=n) (s:=upS s a b k)
theorem zKa{a b:Int}:∀{n:Nat} {s:SC},(dnN a b n s).w=s.w∧(dnN a b n s).h=s.h∧(dnN a b n s).y=s.y∧(dnN a b n s).x=s.x
 | 0,_=>⟨rfl,rfl,rfl,rfl⟩
 | n+1,s=>zKa (n:=n) (s:=dnS s a b)
theorem zIa{s:SC}(h:ScI s):ScI (dwn s):=by
 have b:=h.b;have t:=h.t;have y:=h.y;have h':=h.h
 unfold dwn
 split
 ·exact zRc h t (by omega) b.2
 ·have:=zAE (a:=s.h - 1) (b:=s.y+1)
  exact h.go h.x (by omega)
theorem upw_I{s:SC}(h:ScI s):ScI (upw s):=by
 have b:=h.b;have t:=h.t;have y:=h.y;have h':=h.h
 unfold upw
 split
 ·exact dn_I h t (by omega) b.2
 ·have:=zCj (a:=0) (b:=s.y - 1)
  exact h.go h.x (by omega)
theorem zKY(s:SC):(dwn s).w=s.w∧(dwn s).x=s.x∧(dwn s).h=s.h:=by
 unfold dwn;split<;>exact⟨rfl,rfl,rfl⟩
theorem zSO{s:SC}(h:ScI s):ScI (zGc s)∧(zGc s).x < (zGc s).w:=by
 have w:=h.w;have x:=h.x
 unfold zGc
 split
 ·have:=zKY { s with x:=0 }
  exact⟨zIa (h.go (x:=0) (y:=s.y) (by omega) h.y),by rw[this.1,this.2.1];show(0:Int) < s.w;omega⟩
 ·exact⟨h,by omega⟩
theorem prt_I{s:SC}(h:ScI s){r:Int}(hr:32≤r∧r≤1114111∧r≠127∧¬(55296≤r∧r≤57343)):ScI (prt s r):=by
 obtain⟨q,qx⟩:=zSO h
 have x:=q.x;have w:=q.w
 have g:=q.go (x:=(zGc s).x+1) (y:=(zGc s).y) (by omega) q.y
 refine g.put (hist:=(zGc s).hist) (by simp) ?_ q.m
 intro e he
 rcases List.mem_or_eq_of_mem_set he with z | z
 ·exact q.c e z
 ·rw[z];exact⟨r,_,rfl,hr.1,hr.2.1,hr.2.2.1,hr.2.2.2,q.l⟩
theorem ctl_I{s:SC}(h:ScI s)(b:Int):ScI (ctl s b):=by
 have w:=h.w;have x:=h.x;have y:=h.y
 unfold ctl
 split
 ·have a:=zAE (a:=s.x) (b:=s.w - 1)
  have c:=zCj (a:=0) (b:=yp s.x (s.w - 1) - 1)
  exact h.go (by omega) h.y
 ·split
  ·have a:=zAE (a:=s.w - 1) (b:=(s.x / 8+1)*8)
   exact h.go (by omega) h.y
  ·split
   ·exact zIa h
   ·split
    ·exact h.go (by omega) h.y
    ·exact h
theorem zMF{w h:Int}(hw:2≤w∧w≤24)(hh:2≤h∧h≤10):ScI (zKy w h):=by
 refine⟨hw,hh,?_,?_,?_,?_,?_,?_,?_,by simp[zKy],?_,by simp[zKy]⟩<;>simp only[zKy]<;>try omega
 intro e he
 rw[List.eq_of_mem_replicate he];exact zOH
theorem esc_I{s:SC}(h:ScI s)(b:Int):ScI (esc s b):=by
 have w:=h.w;have x:=h.x;have y:=h.y
 unfold esc
 split
 ·exact⟨h.w,h.h,h.x,h.y,h.l,h.t,h.b,h.x,h.y,h.n,h.c,h.m⟩
 ·split
  ·exact h.go h.sx h.sy
  ·split
   ·exact zIa h
   ·split
    ·exact zIa (h.go (x:=0) (y:=s.y) (by omega) h.y)
    ·split
     ·exact upw_I h
     ·split
      ·have q:=zMF h.w h.h
       exact q.put (cs:=(zKy s.w s.h).cs) rfl q.c h.m
      ·exact h
theorem zPr:∀l,l < 128→∀k,k < 8→(0≤orI .i64 (l:Nat) 64∧orI .i64 (l:Nat) 64≤127)∧(0≤orI .i64 (l:Nat) 32∧orI .i64 (l:Nat) 32≤127)∧(0≤orI .i64 (l:Nat) 16∧orI .i64 (l:Nat) 16≤127) ∧
  (0≤zPC .i64 (l:Nat) 112∧zPC .i64 (l:Nat) 112≤127)∧(0≤orI .i64 (zPC .i64 (l:Nat) 112) ((k:Nat)+1:Int)∧orI .i64 (zPC .i64 (l:Nat) 112) ((k:Nat)+1:Int)≤127):=by decide +kernel
theorem zPs{l n:Int}(h:0≤l∧l≤127):0≤zKE l n∧zKE l n≤127:=by
 obtain⟨m,rfl⟩:∃m:Nat,l=m:=⟨l.toNat,by omega⟩
 have a:=zPr m (by omega)
 have a0:=a 0 (by omega)
 unfold zKE
 split
 ·omega
 ·split
  ·exact a0.1
  ·split
   ·exact a0.2.1
   ·split
    ·exact a0.2.2.1
    ·split
     ·rename_i hb
      have hb:=zDp.1 hb
      have:=(a (n - 30).toNat (by omega)).2.2.2.2
      rwa[show(((n - 30).toNat:Nat):Int)+1=n - 29 by omega] at this
     ·split
      ·exact a0.2.2.2.1
      ·exact h
theorem zML:∀{la:List PV} {l:Int},0≤l∧l≤127→0≤zKz l la∧zKz l la≤127
 | [],_,h=>h
 | a :: la,l,h=>zML (la:=la) (zPs h)
theorem zPA{s:SC}(h:ScI s):atS s < s.cs.length∧(s.y*s.w).toNat≤atS s∧atS s < ((s.y+1)*s.w).toNat∧((s.y+1)*s.w).toNat≤s.cs.length∧(s.w*s.h).toNat=s.cs.length:=by
 have w:=h.w;have x:=h.x;have y:=h.y;have n:=h.n;have h':=h.h
 have a:=zAE (a:=s.x) (b:=s.w - 1)
 have e:(s.y+1)*s.w=s.y*s.w+s.w:=by rw[Int.add_mul,Int.one_mul]
 have p:0≤s.y*s.w:=Int.mul_nonneg (by omega) (by omega)
 have m:(s.y+1)*s.w≤s.h*s.w:=Int.mul_le_mul_of_nonneg_right (by omega) (by omega)
 have c:s.w*s.h=s.h*s.w:=Int.mul_comm _ _
 unfold atS
 omega
theorem zAe{c:Prop}[Decidable c]{a b:SC}(h1:c→ScI a)(h2:¬c→ScI b):ScI (if c then a else b):=by
 by_cases h:c
 ·rw[if_pos h];exact h1 h
 ·rw[if_neg h];exact h2 h
theorem csi_I{s:SC}(h:ScI s)(k:Int)(la:List PV):ScI (csi s k la):=by
 have w:=h.w;have x:=h.x;have y:=h.y;have n:=h.n;have h':=h.h;have b:=h.b;have t:=h.t
 have n1:=zCj (a:=1) (b:=yi la 0 1)
 have m1:=zAE (a:=s.x) (b:=s.w - 1)
 have hat:=zPA h
 unfold csi
 simp only
 obtain⟨N,hN⟩:∃N,N=zCI 1 (yi la 0 1):=⟨_,rfl⟩
 rw[←hN] at n1 ⊢
 refine zAe (fun hb=>?_) fun _=>?_
 ·have:=zCj (a:=0) (b:=s.y - N)
  exact h.go h.x (by omega)
 refine zAe (fun hb=>?_) fun _=>?_
 ·have:=zAE (a:=s.h - 1) (b:=s.y+N)
  exact h.go h.x (by omega)
 refine zAe (fun hb=>?_) fun _=>?_
 ·have:=zAE (a:=s.w - 1) (b:=s.x+N)
  exact h.go (by omega) h.y
 refine zAe (fun hb=>?_) fun _=>?_
 ·have:=zCj (a:=0) (b:=yp s.x (s.w - 1) - N)
  exact h.go (by omega) h.y
 refine zAe (fun hb=>?_) fun _=>?_
 ·have:=zAE (a:=s.h - 1) (b:=N - 1)
  have q:=zCj (a:=1) (b:=yi la 1 1)
  have:=zAE (a:=s.w - 1) (b:=zCI 1 (yi la 1 1) - 1)
  exact h.go (by omega) (by omega)
 refine zAe (fun hb=>?_) fun _=>?_
 ·refine zAe (fun hb=>?_) fun _=>?_
  ·exact h.put (hist:=s.hist) (zA8 (by omega) (by omega)) (zLO h.c) h.m
  refine zAe (fun hb=>?_) fun _=>?_
  ·exact h.put (hist:=s.hist) (zA8 (by omega) (by omega)) (zLO h.c) h.m
  refine zAe (fun hb=>?_) fun _=>?_
  ·exact h.put (hist:=s.hist) (zA8 (by omega) (by omega)) (zLO h.c) h.m
  ·exact h
 refine zAe (fun hb=>?_) fun _=>?_
 ·refine zAe (fun hb=>?_) fun _=>?_
  ·exact h.put (hist:=s.hist) (zA8 (by omega) (by omega)) (zLO h.c) h.m
  refine zAe (fun hb=>?_) fun _=>?_
  ·exact h.put (hist:=s.hist) (zA8 (by omega) (by omega)) (zLO h.c) h.m
  refine zAe (fun hb=>?_) fun _=>?_
  ·exact h.put (hist:=s.hist) (zA8 (by omega) (by omega)) (zLO h.c) h.m
  ·exact h
 refine zAe (fun hb=>?_) fun _=>?_
 ·refine zAe (fun hb=>?_) fun _=>?_
  ·skip
   have hb:=zDp.1 hb
   have q:=zP1 (n:=(yp N (s.bot - s.y+1)).toNat) y.1 hb.2 h b.2
   have e:=zKa (a:=s.y) (b:=s.bot) (n:=(yp N (s.bot - s.y+1)).toNat) (s:=s)
   exact q.go (x:=0) (y:=_) (by omega) q.y
  ·exact h
 refine zAe (fun hb=>?_) fun _=>?_
 ·refine zAe (fun hb=>?_) fun _=>?_
  ·skip
   have hb:=zDp.1 hb
   have q:=zPO (k:=false) (n:=(yp N (s.bot - s.y+1)).toNat) y.1 hb.2 h b.2
   have e:=zJv (a:=s.y) (b:=s.bot) (k:=false) (n:=(yp N (s.bot - s.y+1)).toNat) (s:=s)
   exact q.go (x:=0) (y:=_) (by omega) q.y
  ·exact h
 refine zAe (fun hb=>?_) fun _=>?_
 ·exact zPO t (by omega) h b.2
 refine zAe (fun hb=>?_) fun _=>?_
 ·exact zP1 t (by omega) h b.2
 refine zAe (fun hb=>?_) fun _=>?_
 ·exact⟨h.w,h.h,h.x,h.y,zML h.l,h.t,h.b,h.sx,h.sy,h.n,h.c,h.m⟩
 refine zAe (fun hb=>?_) fun _=>?_
 ·refine zAe (fun hb=>?_) fun _=>?_
  ·have:=zAE (a:=s.h) (b:=yi la 1 s.h)
   exact⟨h.w,h.h,by simp only;omega,by simp only;omega,h.l,by simp only;omega,by simp only;omega,h.sx,h.sy,h.n,h.c,h.m⟩
  ·exact h
 ·exact h
def acI(a:PV):Prop:=∃(k n:Int) (p:Bool) (la:List PV) (t:List UInt8),a=acV k n p la t∧1≤k∧k≤5∧(k=1→32≤n∧n≤1114111∧n≠127∧¬(55296≤n∧n≤57343))∧0≤n∧n≤1114111∧la.length≤8∧(∀e∈la,∃m,e=.int .i64 m∧-1≤m∧m≤9999)∧t.length≤40
theorem doA_I{s:SC}(h:ScI s){a:PV}(ha:acI a):ScI (doA s a.A):=by
 obtain⟨k,n,p,la,t,rfl,k1,k2,k3,n1,n2,l8,h8,t4⟩:=ha
 unfold doA acV
 simp only[zBR,zE,zG,yu,zND,zBf,zE4]
 refine zAe (fun hk=>?_) fun _=>?_
 ·exact prt_I h (k3 hk)
 refine zAe (fun hk=>?_) fun _=>?_
 ·exact ctl_I h _
 refine zAe (fun hk=>?_) fun _=>?_
 ·exact esc_I h _
 refine zAe (fun hk=>?_) fun _=>?_
 ·refine zAe (fun hk=>?_) fun _=>?_
  ·exact h
  ·exact csi_I h _ _
 refine zAe (fun hk=>?_) fun _=>?_
 ·exact⟨h.w,h.h,h.x,h.y,h.l,h.t,h.b,h.sx,h.sy,h.n,h.c,h.m⟩
 ·exact h
theorem zP0:∀{la:List PV} {s:SC},ScI s→(∀a∈la,acI a)→ScI (doL s la)
 | [],_,h,_=>h
 | a :: la,s,h,ha=>zP0 (la:=la) (doA_I h (ha a (List.mem_cons_self ..))) fun b hb=>ha b (List.mem_cons_of_mem _ hb)
end
section
variable [zZ]
def PG(r:PR × List PV):Prop:=zDr r.1∧(∀a∈r.2,acI a)∧r.2.length≤2
theorem zAV{c:Prop}[Decidable c]{a b:PR × List PV}(h1:c→PG a)(h2:¬c→PG b):PG (if c then a else b):=by
 by_cases h:c
 ·rw[if_pos h];exact h1 h
 ·rw[if_neg h];exact h2 h
theorem PG.none{p:PR}(h:zDr p):PG (p,[]):=⟨h,fun a ha=>(by cases ha),by simp⟩
theorem PG.one{p:PR}(h:zDr p){a:PV}(ha:acI a):PG (p,[a]):=⟨h,fun b hb=>by rw[List.mem_singleton.1 hb];exact ha,by simp⟩
theorem zS7{b:Int}(h:zJe b=true):acI (acV 2 b false [] []):=by
 simp only[zJe,Bool.or_eq_true,beq_iff_eq] at h
 exact⟨2,b,false,[],[],rfl,by omega,by omega,by omega,by omega,by omega,by simp,by simp,by simp⟩
theorem acI_e{b:Int}(h:zSe b=true):acI (acV 3 b false [] []):=by
 simp only[zSe,Bool.or_eq_true,beq_iff_eq] at h
 exact⟨3,b,false,[],[],rfl,by omega,by omega,by omega,by omega,by omega,by simp,by simp,by simp⟩
theorem zOO{b:Int}(h:32≤b∧b≤1114111∧b≠127∧¬(55296≤b∧b≤57343)):acI (acV 1 b false [] []):=
 ⟨1,b,false,[],[],rfl,by omega,by omega,fun _=>h,by omega,by omega,by simp,by simp,by simp⟩
theorem zS6{t:List UInt8}(h:t.length≤40):acI (acV 5 0 false [] t):=
 ⟨5,0,false,[],t,rfl,by omega,by omega,by omega,by omega,by omega,by simp,by simp,h⟩
theorem u8_n{b:Int}(h:0≤b∧b≤255):((u8 b).toNat:Int)=b:=by
 have e:IntKind.u8.wrap b=b:=by simp[IntKind.wrap,IntKind.signed,IntKind.bits];omega
 have q:b.toNat % 256=b.toNat:=Nat.mod_eq_of_lt (by omega)
 rw[u8,e]
 simp only[UInt8.toNat_ofNat',Nat.reducePow]
 omega
theorem zL1{p:PR}(h:zDr p){b:Int}(hb:0≤b∧b≤255):PG (zBT p b):=by
 unfold zBT
 refine zAV (fun _=>.none (h.st (by decide) (by decide))) fun _=>?_
 refine zAV (fun q=>.one h (zS7 q)) fun _=>?_
 refine zAV (fun q=>.one h (zOO ?_)) fun _=>?_
 ·have:=zDp.1 q;omega
 refine zAV (fun _=>.none h) fun _=>?_
 refine zAV (fun q=>.none ⟨fun e=>absurd (show(6:Int)=2 from e) (by decide),h.a,h.l,fun _=>?_,h.t⟩) fun _=>.one h (zOO (by omega))
 have e:=u8_n hb
 refine⟨rfl,?_,by simp⟩
 simp only[zDI,e,List.length_singleton]
 omega
theorem zKS{p:PR}(h:zDr p){b:Int}:PG (zBZ p b):=by
 unfold zBZ
 refine zAV (fun _=>.none ⟨fun _=>by simp,fun e he=>⟨-1,by simpa using he,by omega,by omega⟩,by simp,fun e=>absurd (show(2:Int)=6 from e) (by decide),h.t⟩) fun _=>?_
 refine zAV (fun _=>.none (h.st (by decide) (by decide))) fun _=>?_
 refine zAV (fun _=>.none h) fun _=>?_
 exact zAV (fun q=>.one .g (acI_e q)) fun _=>.none .g
theorem zSC{p:PR}(h:zDr p){b:Int}:PG (zPS p b):=by
 unfold zPS
 refine zAV (fun _=>.none (h.st (by decide) (by decide))) fun _=>?_
 exact zAV (fun q=>.none .g) fun _=>.none h
theorem osc_G{p:PR}(h:zDr p){b:Int}:PG (zO1 p b):=by
 unfold zO1
 refine zAV (fun _=>.one .g (zS6 h.t)) fun _=>?_
 refine zAV (fun _=>.none (h.st (by decide) (by decide))) fun _=>?_
 refine zAV (fun q=>.none ⟨h.s,h.a,h.l,h.u,?_⟩) fun _=>.none h
 simp;omega
theorem zNa{p:PR}(h:zDr p){b:Int}:PG (zEc p b):=by
 unfold zEc
 exact zAV (fun _=>.one .g (zS6 h.t)) fun _=>zKS (zDr.g.st (by decide) (by decide))
theorem zP2(a b:Int)(hb:48≤b∧b≤57):0≤zRn a b∧zRn a b≤9999:=by
 unfold zRn
 split<;>split<;>omega
theorem zSr{p:PR}(h:zDr p)(hs:p.st=2){b:Int}(hb:0≤b∧b≤255):PG (zJf p b):=by
 have hu:¬(2:Int)=6:=by decide
 unfold zJf
 refine zAV (fun _=>.none (zDr.g.st (by decide) (by decide))) fun _=>?_
 refine zAV (fun q=>.one h (zS7 q)) fun _=>?_
 refine zAV (fun q=>.none ⟨fun _=>?_,fun e he=>?_,by simpa using h.l,h.u,h.t⟩) fun _=>?_
 ·have:=h.s hs
  simpa using this
 ·rcases List.mem_or_eq_of_mem_set he with z | z
  ·exact h.a e z
  ·have:=zP2 (nth p.args (p.args.length - 1)).I b (zDp.1 q)
   exact⟨_,z,by omega,by omega⟩
 refine zAV (fun q=>.none ⟨fun _=>by simp,fun e he=>?_,?_,h.u,h.t⟩) fun _=>?_
 ·rcases List.mem_append.1 he with z | z
  ·exact h.a e z
  ·exact⟨-1,by simpa using z,by omega,by omega⟩
 ·simp;omega
 refine zAV (fun q=>.none ⟨h.s,h.a,h.l,h.u,h.t⟩) fun _=>?_
 refine zAV (fun q=>.one .g ?_) fun _=>.none (zDr.g.st (by decide) (by decide))
 have q:=zDp.1 q
 exact⟨4,b,p.priv,p.args,[],rfl,by omega,by omega,by omega,by omega,by omega,h.l,h.a,by simp⟩
theorem zJD{h:Int}:(zNj h=2→194≤h∧h≤223)∧(zNj h=3→224≤h∧h≤239)∧(zNj h=4→240≤h∧h≤244):=by
 unfold zNj
 split
 ·omega
 split
 ·rename_i q;have:=zDp.1 q;omega
 split
 ·rename_i q;have:=zDp.1 q;omega
 split
 ·rename_i q;have:=zDp.1 q;omega
 ·omega
theorem zPZ{t:List UInt8}(hf:zE7 t=true)(hl:(t.length:Int)=zDI t)(h2:2≤t.length):128≤zBr t∧zBr t≤1114111∧¬(55296≤zBr t∧zBr t≤57343):=by
 match t,hf,hl,h2 with
 | [a,b],hf,hl,_=>
  have:=(zJD (h:=a.toNat)).1 hl.symm
  simp only[zE7,zHd,Bool.and_true,zDp] at hf
  have e:zBr [a,b]=((a.toNat:Int) - 192)*64+b.toNat - 128:=rfl
  have l1:128≤loF a.toNat 1:=by unfold loF;split<;>(try split)<;>(try split)<;>omega
  have l2:hiF a.toNat 1≤191:=by unfold hiF;split<;>(try split)<;>(try split)<;>omega
  omega
 | [a,b,c],hf,hl,_=>
  have:=(zJD (h:=a.toNat)).2.1 hl.symm
  simp only[zE7,zHd,Bool.and_true,zDp,Bool.and_eq_true] at hf
  have e:zBr [a,b,c]=(((a.toNat:Int) - 224)*64+b.toNat - 128)*64+c.toNat - 128:=rfl
  have l1:128≤loF a.toNat 1∧((a.toNat:Int)=224→loF a.toNat 1=160):=by unfold loF;rw[if_pos rfl];split<;>(try split)<;>omega
  have l2:hiF a.toNat 1≤191∧((a.toNat:Int)=237→hiF a.toNat 1=159):=by unfold hiF;rw[if_pos rfl];split<;>(try split)<;>omega
  have l3:loF a.toNat 2=128:=rfl
  have l4:hiF a.toNat 2=191:=rfl
  rw[l3,l4] at hf
  by_cases e1:(a.toNat:Int)=224
  ·have:=l1.2 e1;omega
  ·by_cases e2:(a.toNat:Int)=237
   ·have:=l2.2 e2;omega
   ·omega
 | [a,b,c,d],hf,hl,_=>
  have:=(zJD (h:=a.toNat)).2.2 hl.symm
  simp only[zE7,zHd,Bool.and_true,zDp,Bool.and_eq_true] at hf
  have e:zBr [a,b,c,d]=((((a.toNat:Int) - 240)*64+b.toNat - 128)*64+c.toNat - 128)*64+d.toNat - 128:=rfl
  have l1:128≤loF a.toNat 1∧((a.toNat:Int)=240→loF a.toNat 1=144):=by unfold loF;rw[if_pos rfl];split<;>(try split)<;>omega
  have l2:hiF a.toNat 1≤191∧((a.toNat:Int)=244→hiF a.toNat 1=143):=by unfold hiF;rw[if_pos rfl];split<;>(try split)<;>omega
  have l3:loF a.toNat 2=128:=rfl
  have l4:hiF a.toNat 2=191:=rfl
  have l5:loF a.toNat 3=128:=rfl
  have l6:hiF a.toNat 3=191:=rfl
  rw[l3,l4,l5,l6] at hf
  by_cases e1:(a.toNat:Int)=240
  ·have:=l1.2 e1;omega
  ·by_cases e2:(a.toNat:Int)=244
   ·have:=l2.2 e2;omega
   ·omega
 | a :: b :: c :: d :: e :: r,hf,hl,_=>
  have:=zJz (t:=a :: b :: c :: d :: e :: r)
  simp only[List.length_cons] at hl
  omega
theorem zLl{t s:List UInt8}(h:t≠[]):zDI (t++s)=zDI t:=by
 cases t with
 | nil=>exact absurd rfl h
 | cons a l=>rfl
theorem utf_G{p:PR}(h:zDr p)(hs:p.st=6){b:Int}(hb:0≤b∧b≤255):PG (zPN p b):=by
 obtain⟨u1,u2,u3⟩:=h.u hs
 unfold zPN
 refine zAV (fun _=>?_) fun hf=>?_
 ·obtain⟨q1,q2,q3⟩:=zL1 .g hb
  have hl:(zBT PR.g b).2.length≤1:=by
   unfold zBT
   repeat' split
   all_goals simp
  refine⟨q1,fun a ha=>?_,by simp only[List.length_cons];omega⟩
  rcases List.mem_cons.1 ha with z | z
  ·rw[z];exact zOO (by omega)
  ·exact q2 a z
 have hf:zE7 (p.utf++[u8 b])=true:=by simpa using hf
 have hl:1≤p.utf.length:=List.length_pos_iff.2 u3
 refine zAV (fun q=>.none ⟨fun e=>absurd (show p.st=2 from e) (by omega),h.a,h.l,fun _=>⟨hf,q,by simp⟩,h.t⟩) fun q=>.one .g (zOO ?_)
 have hz:=zLl (s:=[u8 b]) u3
 have hn:(p.utf++[u8 b]).length=p.utf.length+1:=by simp
 have:=zPZ hf (by omega) (by omega)
 omega
theorem zLf{p:PR}(h:zDr p){b:Int}(hb:0≤b∧b≤255):PG (zDt p b):=by
 unfold zDt
 refine zAV (fun _=>zKS h) fun _=>?_
 refine zAV (fun q=>zSr h q hb) fun _=>?_
 refine zAV (fun _=>zSC h) fun _=>?_
 refine zAV (fun _=>osc_G h) fun _=>?_
 refine zAV (fun _=>zNa h) fun _=>?_
 exact zAV (fun q=>utf_G h q hb) fun _=>zL1 h hb
theorem zHP:∀{l:List UInt8} {p:PR} {acc:List PV},zDr p→(∀a∈acc,acI a)→zDr (zAg p l acc).1∧(∀a∈(zAg p l acc).2,acI a)∧(zAg p l acc).2.length≤acc.length+2*l.length
 | [],_,_,h,ha=>⟨h,ha,by simp[zAg]⟩
 | b :: l,p,acc,h,ha=>by
  have hb:(b.toNat:Int)≤255:=by have:=b.toNat_lt;omega
  obtain⟨q1,q2,q3⟩:=zLf h (b:=b.toNat) ⟨by omega,hb⟩
  obtain⟨r1,r2,r3⟩:=zHP (l:=l) (p:=(zDt p b.toNat).1) (acc:=acc++(zDt p b.toNat).2) q1 fun a hm=>(List.mem_append.1 hm).elim (ha a) (q2 a)
  rw[zAg]
  refine⟨r1,r2,?_⟩
  simp only[List.length_append,List.length_cons] at r3 ⊢
  omega
end
section
variable [zZ]
theorem zNe{r:Int}(h:0≤r∧r < 16777216):zDK (nB r 3)=r:=by
 have e:nB r 3=[zBB (r / 65536),zBB (r / 256),zBB r]:=by
  show[zBB (r / 65536),zBB (r / 256),zBB (r / 1)]=_
  rw[Int.ediv_one]
 rw[e]
 simp only[zDK,List.foldl_cons,List.foldl_nil,zDG]
 omega
theorem zI3:∀{cs:List PV},(∀c∈cs,ceI c)→zFj (zGa cs)=true∧(zGa cs).length=4*cs.length
 | [],_=>⟨rfl,rfl⟩
 | c :: cs,h=>by
  obtain⟨q1,q2⟩:=zI3 (cs:=cs) fun e he=>h e (List.mem_cons_of_mem _ he)
  obtain⟨r,l,rfl,r1,r2,r3,r4,l1,l2⟩:=h c (List.mem_cons_self ..)
  have e:zGa (cel r l :: cs)=(nB r 3++[zBB l])++zGa cs:=by simp[zGa,cel]
  have ln:(nB r 3++[zBB l]).length=4:=by simp[zGz]
  have l3:(nB r 3).length=3:=zGz r 3
  have t3:(zGa (cel r l :: cs)).take 3=nB r 3:=by rw[e,List.append_assoc,List.take_left' l3]
  have d4:(zGa (cel r l :: cs)).drop 4=zGa cs:=by rw[e,List.drop_left' ln]
  have g3:(zGa (cel r l :: cs)).getD 3 0=zBB l:=by
   rw[e,List.append_assoc,List.getD_eq_getElem?_getD,List.getElem?_append_right (by omega),l3];rfl
  have hl:(zGa (cel r l :: cs)).length=4+(zGa cs).length:=by rw[e,List.length_append,ln]
  refine⟨?_,by rw[hl,q2,List.length_cons];omega⟩
  rw[zB0 (by omega),t3,d4,g3,q1,zNe (by omega)]
  have i:zAF r=true:=by
   simp only[zAF,Bool.and_eq_true,zDp,bne_iff_ne,Bool.not_eq_true',ne_eq]
   refine⟨⟨⟨r1,r2⟩,r3⟩,?_⟩
   cases hq:inB r 55296 57343 with
   | false=>rfl
   | true=>exact absurd (zDp.1 hq) r4
  have b:=zDG l
  rw[i,Bool.true_and,Bool.and_true,decide_eq_true_eq];omega
def zDJ(s:SC):List PV:=(List.range s.h.toNat).map fun y=>.str (zGa ((s.cs.drop (y*s.w.toNat)).take s.w.toNat))
theorem zHL{s:SC}(h:ScI s):zAT (zDJ s) s.w s.h=true∧(zDJ s).length=s.h.toNat∧∀e∈zDJ s,∃b,e=.str b:=by
 have w:=h.w;have h':=h.h;have n:=h.nn
 refine⟨?_,by simp[zDJ],fun e he=>?_⟩
 ·simp only[zAT,Bool.and_eq_true,decide_eq_true_eq,List.all_eq_true]
  refine⟨by rw[zDJ,List.length_map,List.length_range];omega,fun e he=>?_⟩
  simp only[zDJ,List.mem_map,List.mem_range] at he
  obtain⟨y,hy,rfl⟩:=he
  have hl:((s.cs.drop (y*s.w.toNat)).take s.w.toNat).length=s.w.toNat:=by
   have:(y+1)*s.w.toNat≤s.h.toNat*s.w.toNat:=Nat.mul_le_mul_right _ hy
   have:(y+1)*s.w.toNat=y*s.w.toNat+s.w.toNat:=by rw[Nat.add_mul,Nat.one_mul]
   rw[List.length_take,List.length_drop];omega
  obtain⟨q1,q2⟩:=zI3 (cs:=(s.cs.drop (y*s.w.toNat)).take s.w.toNat) fun c hc=>h.c c (List.mem_of_mem_drop (List.mem_of_mem_take hc))
  have q3:((zGa ((s.cs.drop (y*s.w.toNat)).take s.w.toNat)).length:Int)=4*s.w:=by rw[q2,hl];omega
  rw[zGV,zE4,q1,Bool.and_true,decide_eq_true_eq]
  exact q3
 ·simp only[zDJ,List.mem_map] at he
  obtain⟨y,_,rfl⟩:=he
  exact⟨_,rfl⟩
end
section
variable [zZ]
def rvP(r:PR × List PV)(out:List PV):PV:=r.1.rv (out++r.2)
def zBH:zS:=⟨[(.bx,.box [.int .i64,.list (.int .i64),.bool,.str,.str,.list (.agg [.int .i64,.int .i64,.bool,.list (.int .i64),.str])])],[],true,fun _=>True,fun _=>[],fun ps=>[PR.g.rv (nth (nth ps 0).A 5).L]⟩
theorem zC3:yQ Tryz.prog 94 zBH:=by
 refine zf [0] [] (zI (zF [])) zc Tryz.func94 rfl (by decide) rfl (by decide) rfl ?_
 intro ps hT hpre W hW
 simp only[zBH,TyA,Ty,Tys] at hT hpre
 obtain⟨_,_,rfl,⟨_,rfl,_,_,rfl,⟨st,rfl,hst⟩,_,_,rfl,⟨ag,rfl,hag,tag⟩,_,_,rfl,⟨pr,rfl⟩,_,_,rfl,⟨tx,rfl,htx⟩,_,_,rfl,⟨ut,rfl,hut⟩,_,_,rfl,⟨out,rfl,hout,tout⟩,rfl⟩,rfl⟩:=hT
 refine hW.vc [] _ _ ?_
 simp[-List.getD_eq_getElem?_getD,zBH,PR.rv,PR.g]
def zBF:zS:=⟨[(.bx,.box [.int .i64,.list (.int .i64),.bool,.str,.str,.list (.agg [.int .i64,.int .i64,.bool,.list (.int .i64),.str])]),(.ow,.agg [.int .i64,.int .i64,.bool,.list (.int .i64),.str])],[],true,fun ps=>(nth (nth ps 0).A 5).L.length≤1000000,fun _=>[],
 fun ps=>[(zCR (nth ps 0).A).rv ((nth (nth ps 0).A 5).L++[.agg [nth (nth ps 1).A 0,nth (nth ps 1).A 1,nth (nth ps 1).A 2,nth (nth ps 1).A 3,nth (nth ps 1).A 4]])]⟩
theorem zC1:yQ Tryz.prog 95 zBF:=by
 refine zf [0,1,3] [] (zI (zF [])) zc Tryz.func95 rfl (by decide) rfl (by decide) rfl ?_
 intro ps hT hpre W hW
 simp only[zBF,TyA,Ty,Tys] at hT hpre
 obtain⟨_,_,rfl,⟨_,rfl,_,_,rfl,⟨st,rfl,hst⟩,_,_,rfl,⟨ag,rfl,hag,tag⟩,_,_,rfl,⟨pr,rfl⟩,_,_,rfl,⟨tx,rfl,htx⟩,_,_,rfl,⟨ut,rfl,hut⟩,_,_,rfl,⟨out,rfl,hout,tout⟩,rfl⟩,_,_,rfl,⟨_,rfl,_,_,rfl,⟨k,rfl,hk⟩,_,_,rfl,⟨n,rfl,hn⟩,_,_,rfl,⟨p,rfl⟩,_,_,rfl,⟨es,rfl,hes,tes⟩,_,_,rfl,⟨t,rfl,ht⟩,rfl⟩,rfl⟩:=hT
 simp only[zE,zG,zBR,zBf,yu] at hpre
 refine hW.vc [(3,[7,10],tkN [0,1,2,3,4,5] (alN [6,7] (tkN [8,9] (alS 10 .done))))] _ _ ?_
 simp[-List.getD_eq_getElem?_getD,zBF,PR.rv,zCR]
 exact fun _=>⟨fun h=>⟨by decide +kernel,by omega,fun _=>h⟩,fun h=>⟨by decide +kernel,by omega⟩⟩
def zA3:zS:=⟨[(.rd,.int .i64)],[.bool],true,fun _=>True,fun ps=>[.bool (zJe (nth ps 0).I)],fun _=>[]⟩
theorem zEx:yQ Tryz.prog 96 zA3:=by
 refine zf [0,2] [.tmp 2] (zI (zF [])) zc Tryz.func96 rfl (by decide) rfl (by decide) rfl ?_
 intro ps hT hpre W hW
 simp only[zA3,TyA,Ty,Tys] at hT hpre
 obtain⟨_,_,rfl,⟨b,rfl,hb⟩,rfl⟩:=hT
 refine hW.vc [] _ _ ?_
 simp[-List.getD_eq_getElem?_getD,zA3,zJe]
 rw[Bool.eq_iff_iff];simp
def zCr:zS:=⟨[(.rd,.str)],[.int .i64],true,fun _=>True,fun ps=>[.int .i64 (zDI (nth ps 0).S)],fun _=>[]⟩
theorem zIS:yQ Tryz.prog 98 zCr:=by
 refine zf [0,2,3] [.tmp 2] (zA (cs:=[]) zAU (zI (zF []))) zc Tryz.func98 rfl (by decide) rfl (by decide) rfl ?_
 intro ps hT hpre W hW
 simp only[zCr,TyA,Ty,Tys] at hT hpre
 obtain⟨_,_,rfl,⟨t,rfl,ht⟩,rfl⟩:=hT
 refine hW.vc [] _ _ ?_
 simp[-List.getD_eq_getElem?_getD,zCr,zb,zJ]
 cases t with
 | nil=>simp[zDI]
 | cons a l=>
  have ha:=a.toNat_lt
  have w1:IntKind.i64.wrap (a.toNat:Int)=a.toNat:=zC (by omega)
  simp only[List.getD_cons_zero,w1,zDI,zNj]
  refine⟨nofun,fun _=>⟨by simp,fun h=>by rw[if_pos h],fun h=>⟨fun h2=>by rw[if_neg (by omega),if_pos h2],fun h2=>⟨fun h3=>by rw[if_neg (by omega),if_neg (by simp[h2]),if_pos h3],fun h3=>⟨fun h4=>?_,fun h4=>?_⟩⟩⟩⟩⟩
  ·rw[if_neg (by omega),if_neg (by simp[h2]),if_neg (by simp[h3]),if_pos h4]
  ·rw[if_neg (by omega),if_neg (by simp[h2]),if_neg (by simp[h3]),if_neg (by simp[h4])]
def zB9:zS:=⟨[(.rd,.str)],[.bool],true,fun _=>True,fun ps=>[.bool (zE7 (nth ps 0).S)],fun _=>[]⟩
theorem zMW:yQ Tryz.prog 97 zB9:=by
 refine zf [0,2,3,4,5,6,20] [.tmp 2] (zA (cs:=[]) zAU (zI (zF []))) zc Tryz.func97 rfl (by decide) rfl (by decide) rfl ?_
 intro ps hT hpre W hW
 simp only[zB9,TyA,Ty,Tys] at hT hpre
 obtain⟨_,_,rfl,⟨t,rfl,ht⟩,rfl⟩:=hT
 refine hW.vc [] _ _ ?_
 simp[-List.getD_eq_getElem?_getD,zB9,zb,zJ]
 rw[limN] at ht
 refine hW.loopS _ _ _ [.sl 3 .dp (.int .i64)] (fun ys=>∃i:Nat,ys=[.int .i64 i]∧1≤i∧i≤t.length+1∧zE7 t=zHd (t.getD 0 0).toNat i (t.drop i)) (fun ys=>t.length+1 - (nth ys 0).I.toNat) ?_ ?_
 ·simp[-List.getD_eq_getElem?_getD,zB9,zb,zJ]
  refine⟨1,rfl,by omega,by omega,?_⟩
  cases t with
  | nil=>rfl
  | cons a l=>rfl
 ·rintro ys ⟨i,rfl,g0,g1,g2⟩
  have w1:IntKind.i64.wrap ((i:Int)+1)=i+1:=zC (by omega)
  refine hW.vc [] _ _ ?_
  simp[-List.getD_eq_getElem?_getD,zB9,zb,zJ,w1]
  obtain⟨h0,hh⟩:∃h0:Int,h0=((t.getD 0 0).toNat:Int):=⟨_,rfl⟩
  rw[←hh] at g2 ⊢
  obtain⟨c,hc⟩:∃c,c=t.getD i 0:=⟨_,rfl⟩
  have hc2:=c.toNat_lt
  have wc:IntKind.i64.wrap (c.toNat:Int)=c.toNat:=zC (by omega)
  rw[←hc,wc]
  have key:i < t.length→zE7 t=(inB c.toNat (loF h0 i) (hiF h0 i)&&zHd h0 (i+1) (t.drop (i+1))):=fun h=>by
   have e:t.drop i=c :: t.drop (i+1):=by
    rw[hc,List.drop_eq_getElem_cons h];simp[h]
   rw[g2,e,zHd]
  have F:i < t.length→∀lo hi,loF h0 i=lo→hiF h0 i=hi→inB c.toNat lo hi=false→zE7 t=false:=fun h lo hi e1 e2 q=>by rw[key h,e1,e2,q,Bool.false_and]
  have G:i < t.length→∀lo hi,loF h0 i=lo→hiF h0 i=hi→inB c.toNat lo hi=true→(∃i_1:Nat,(i:Int)+1=i_1∧1≤i_1∧i_1≤t.length+1∧zE7 t=zHd h0 i_1 (t.drop i_1))∧t.length - i < t.length+1 - i:=fun h lo hi e1 e2 q=>
   ⟨⟨i+1,by omega,by omega,by omega,by rw[key h,e1,e2,q,Bool.true_and]⟩,by omega⟩
  refine fun _=>⟨fun h=>⟨h,fun h1=>⟨by omega,fun q=>⟨F h _ _ ?_ ?_,G h _ _ ?_ ?_⟩,fun q=>⟨fun q2=>⟨F h _ _ ?_ ?_,G h _ _ ?_ ?_⟩,fun q2=>⟨fun q3=>⟨F h _ _ ?_ ?_,G h _ _ ?_ ?_⟩,fun q3=>⟨fun q4=>⟨F h _ _ ?_ ?_,G h _ _ ?_ ?_⟩,fun q4=>⟨F h _ _ ?_ ?_,G h _ _ ?_ ?_⟩⟩⟩⟩⟩,fun h1=>⟨F h _ _ ?_ ?_,G h _ _ ?_ ?_⟩⟩,fun h=>?_⟩
  all_goals first
   | (unfold loF;rw[if_neg (by omega)])
   | (unfold hiF;rw[if_neg (by omega)])
   | (unfold loF;rw[if_pos (by omega),if_pos (by assumption)])
   | (unfold hiF;rw[if_pos (by omega),if_pos (by assumption)])
   | (unfold loF;rw[if_pos (by omega),if_neg (by omega),if_pos (by assumption)])
   | (unfold hiF;rw[if_pos (by omega),if_neg (by omega),if_pos (by assumption)])
   | (unfold loF;rw[if_pos (by omega),if_neg (by omega),if_neg (by omega)])
   | (unfold hiF;rw[if_pos (by omega),if_neg (by omega),if_neg (by omega)])
   | (rw[g2,List.drop_eq_nil_of_le h];rfl)
def yb:zS:=⟨[(.rd,.str)],[.int .i64],true,fun ps=>1≤(nth ps 0).S.length∧(nth ps 0).S.length≤4,fun ps=>[.int .i64 (zBr (nth ps 0).S)],fun _=>[]⟩
theorem zMV:yQ Tryz.prog 99 yb:=by
 refine zf [0,2,3,4,9] [.tmp 2] (zI (zF [])) zc Tryz.func99 rfl (by decide) rfl (by decide) rfl ?_
 intro ps hT hpre W hW
 simp only[yb,TyA,Ty,Tys] at hT hpre
 obtain⟨_,_,rfl,⟨t,rfl,ht⟩,rfl⟩:=hT
 simp only[zE,zE4] at hpre
 refine hW.vc [] _ _ ?_
 simp[-List.getD_eq_getElem?_getD,yb]
 have t0:t.getD 0 0 :: t.drop 1=t:=by
  cases t with
  | nil=>simp at hpre
  | cons a l=>rfl
 obtain⟨a,ha⟩:∃a,a=t.getD 0 0:=⟨_,rfl⟩
 have ha2:=a.toNat_lt
 rw[←ha] at t0 ⊢
 have hl:(t.drop 1).length=t.length - 1:=List.length_drop ..
 have w0:IntKind.i64.wrap (a.toNat:Int)=a.toNat:=zC (by omega)
 rw[w0]
 rw[zC (n:=(a.toNat:Int) - 192) (by omega),zC (n:=(a.toNat:Int) - 224) (by omega),zC (n:=(a.toNat:Int) - 240) (by omega)]
 refine⟨by omega,fun _=>⟨fun h=>?_,fun h=>⟨fun h2=>?_,fun h2=>⟨fun h3=>?_,fun h3=>?_⟩⟩⟩⟩
 ·obtain⟨N0,hN⟩:∃N0,N0=(a.toNat:Int) - 192:=⟨_,rfl⟩
  have hR:zBr t=zBj N0 (t.drop 1):=by rw[←t0,zBr,hN];congr 1;simp only[List.drop_succ_cons,List.drop_zero,hl];rw[if_pos (by omega)]
  have hN2:-255≤N0∧N0≤255:=by omega
  rw[←hN]
  refine hW.loopS _ _ _ [.sl 3 .dp (.int .i64),.sl 4 .dp (.int .i64)] (fun ys=>∃(i:Nat) (n:Int),ys=[.int .i64 n,.int .i64 i]∧1≤i∧i≤t.length∧zBr t=zBj n (t.drop i)∧(i=1→-255≤n∧n≤255)∧(i=2→-17000≤n∧n≤17000)∧(i=3→-1100000≤n∧n≤1100000)∧(i=4→-80000000≤n∧n≤80000000)) (fun ys=>t.length - (nth ys 1).I.toNat) ?_ ?_
  ·simp[-List.getD_eq_getElem?_getD,yb]
   exact⟨1,N0,⟨rfl,rfl⟩,by omega,by omega,hR,by omega,by omega,by omega,by omega⟩
  ·rintro ys ⟨i,n,rfl,g0,g1,g2,g3,g4,g5,g6⟩
   have w1:IntKind.i64.wrap ((i:Int)+1)=i+1:=zC (by omega)
   refine hW.vc [] _ _ ?_
   simp[-List.getD_eq_getElem?_getD,yb,w1]
   obtain⟨c,hc⟩:∃c,c=t.getD i 0:=⟨_,rfl⟩
   have hc2:=c.toNat_lt
   rw[←hc,zC (n:=(c.toNat:Int)) (by omega),zC (n:=n*64) (by omega),zC (n:=n*64+c.toNat) (by omega),zC (n:=n*64+c.toNat - 128) (by omega)]
   refine fun _=>⟨fun h=>⟨h,⟨i+1,_,⟨rfl,by omega⟩,by omega,by omega,?_,by omega,by omega,by omega,by omega⟩,by omega⟩,fun h=>?_⟩
   ·have e:t.drop i=c :: t.drop (i+1):=by
     rw[hc,List.drop_eq_getElem_cons h];simp[h]
    rw[g2,e,zBj]
   ·rw[g2,List.drop_eq_nil_of_le h];rfl
 ·obtain⟨N0,hN⟩:∃N0,N0=(a.toNat:Int) - 224:=⟨_,rfl⟩
  have hR:zBr t=zBj N0 (t.drop 1):=by rw[←t0,zBr,hN];congr 1;simp only[List.drop_succ_cons,List.drop_zero,hl];rw[if_neg (by omega),if_pos (by omega)]
  have hN2:-255≤N0∧N0≤255:=by omega
  rw[←hN]
  refine hW.loopS _ _ _ [.sl 3 .dp (.int .i64),.sl 4 .dp (.int .i64)] (fun ys=>∃(i:Nat) (n:Int),ys=[.int .i64 n,.int .i64 i]∧1≤i∧i≤t.length∧zBr t=zBj n (t.drop i)∧(i=1→-255≤n∧n≤255)∧(i=2→-17000≤n∧n≤17000)∧(i=3→-1100000≤n∧n≤1100000)∧(i=4→-80000000≤n∧n≤80000000)) (fun ys=>t.length - (nth ys 1).I.toNat) ?_ ?_
  ·simp[-List.getD_eq_getElem?_getD,yb]
   exact⟨1,N0,⟨rfl,rfl⟩,by omega,by omega,hR,by omega,by omega,by omega,by omega⟩
  ·rintro ys ⟨i,n,rfl,g0,g1,g2,g3,g4,g5,g6⟩
   have w1:IntKind.i64.wrap ((i:Int)+1)=i+1:=zC (by omega)
   refine hW.vc [] _ _ ?_
   simp[-List.getD_eq_getElem?_getD,yb,w1]
   obtain⟨c,hc⟩:∃c,c=t.getD i 0:=⟨_,rfl⟩
   have hc2:=c.toNat_lt
   rw[←hc,zC (n:=(c.toNat:Int)) (by omega),zC (n:=n*64) (by omega),zC (n:=n*64+c.toNat) (by omega),zC (n:=n*64+c.toNat - 128) (by omega)]
   refine fun _=>⟨fun h=>⟨h,⟨i+1,_,⟨rfl,by omega⟩,by omega,by omega,?_,by omega,by omega,by omega,by omega⟩,by omega⟩,fun h=>?_⟩
   ·have e:t.drop i=c :: t.drop (i+1):=by
     rw[hc,List.drop_eq_getElem_cons h];simp[h]
    rw[g2,e,zBj]
   ·rw[g2,List.drop_eq_nil_of_le h];rfl
 ·obtain⟨N0,hN⟩:∃N0,N0=(a.toNat:Int) - 240:=⟨_,rfl⟩
  have hR:zBr t=zBj N0 (t.drop 1):=by rw[←t0,zBr,hN];congr 1;simp only[List.drop_succ_cons,List.drop_zero,hl];rw[if_neg (by omega),if_neg (by omega),if_pos (by omega)]
  have hN2:-255≤N0∧N0≤255:=by omega
  rw[←hN]
  refine hW.loopS _ _ _ [.sl 3 .dp (.int .i64),.sl 4 .dp (.int .i64)] (fun ys=>∃(i:Nat) (n:Int),ys=[.int .i64 n,.int .i64 i]∧1≤i∧i≤t.length∧zBr t=zBj n (t.drop i)∧(i=1→-255≤n∧n≤255)∧(i=2→-17000≤n∧n≤17000)∧(i=3→-1100000≤n∧n≤1100000)∧(i=4→-80000000≤n∧n≤80000000)) (fun ys=>t.length - (nth ys 1).I.toNat) ?_ ?_
  ·simp[-List.getD_eq_getElem?_getD,yb]
   exact⟨1,N0,⟨rfl,rfl⟩,by omega,by omega,hR,by omega,by omega,by omega,by omega⟩
  ·rintro ys ⟨i,n,rfl,g0,g1,g2,g3,g4,g5,g6⟩
   have w1:IntKind.i64.wrap ((i:Int)+1)=i+1:=zC (by omega)
   refine hW.vc [] _ _ ?_
   simp[-List.getD_eq_getElem?_getD,yb,w1]
   obtain⟨c,hc⟩:∃c,c=t.getD i 0:=⟨_,rfl⟩
   have hc2:=c.toNat_lt
   rw[←hc,zC (n:=(c.toNat:Int)) (by omega),zC (n:=n*64) (by omega),zC (n:=n*64+c.toNat) (by omega),zC (n:=n*64+c.toNat - 128) (by omega)]
   refine fun _=>⟨fun h=>⟨h,⟨i+1,_,⟨rfl,by omega⟩,by omega,by omega,?_,by omega,by omega,by omega,by omega⟩,by omega⟩,fun h=>?_⟩
   ·have e:t.drop i=c :: t.drop (i+1):=by
     rw[hc,List.drop_eq_getElem_cons h];simp[h]
    rw[g2,e,zBj]
   ·rw[g2,List.drop_eq_nil_of_le h];rfl
 ·obtain⟨N0,hN⟩:∃N0,N0=(a.toNat:Int):=⟨_,rfl⟩
  have hR:zBr t=zBj N0 (t.drop 1):=by rw[←t0,zBr,hN];congr 1;simp only[List.drop_succ_cons,List.drop_zero,hl];rw[if_neg (by omega),if_neg (by omega),if_neg (by omega),Int.sub_zero]
  have hN2:-255≤N0∧N0≤255:=by omega
  rw[←hN]
  refine hW.loopS _ _ _ [.sl 3 .dp (.int .i64),.sl 4 .dp (.int .i64)] (fun ys=>∃(i:Nat) (n:Int),ys=[.int .i64 n,.int .i64 i]∧1≤i∧i≤t.length∧zBr t=zBj n (t.drop i)∧(i=1→-255≤n∧n≤255)∧(i=2→-17000≤n∧n≤17000)∧(i=3→-1100000≤n∧n≤1100000)∧(i=4→-80000000≤n∧n≤80000000)) (fun ys=>t.length - (nth ys 1).I.toNat) ?_ ?_
  ·simp[-List.getD_eq_getElem?_getD,yb]
   exact⟨1,N0,⟨rfl,rfl⟩,by omega,by omega,hR,by omega,by omega,by omega,by omega⟩
  ·rintro ys ⟨i,n,rfl,g0,g1,g2,g3,g4,g5,g6⟩
   have w1:IntKind.i64.wrap ((i:Int)+1)=i+1:=zC (by omega)
   refine hW.vc [] _ _ ?_
   simp[-List.getD_eq_getElem?_getD,yb,w1]
   obtain⟨c,hc⟩:∃c,c=t.getD i 0:=⟨_,rfl⟩
   have hc2:=c.toNat_lt
   rw[←hc,zC (n:=(c.toNat:Int)) (by omega),zC (n:=n*64) (by omega),zC (n:=n*64+c.toNat) (by omega),zC (n:=n*64+c.toNat - 128) (by omega)]
   refine fun _=>⟨fun h=>⟨h,⟨i+1,_,⟨rfl,by omega⟩,by omega,by omega,?_,by omega,by omega,by omega,by omega⟩,by omega⟩,fun h=>?_⟩
   ·have e:t.drop i=c :: t.drop (i+1):=by
     rw[hc,List.drop_eq_getElem_cons h];simp[h]
    rw[g2,e,zBj]
   ·rw[g2,List.drop_eq_nil_of_le h];rfl
def zGS:zS:=⟨[(.bx,.box [.int .i64,.list (.int .i64),.bool,.str,.str,.list (.agg [.int .i64,.int .i64,.bool,.list (.int .i64),.str])]),(.rd,.int .i64)],[],true,fun ps=>(nth (nth ps 0).A 5).L.length≤900000∧0≤(nth ps 1).I∧(nth ps 1).I≤255,fun _=>[],
 fun ps=>[rvP (zBT (zCR (nth ps 0).A) (nth ps 1).I) (nth (nth ps 0).A 5).L]⟩
theorem zMP:yQ Tryz.prog 83 zGS:=by
 refine zf [0,1] [] (zA (cs:=[]) zIS (zA (cs:=[]) zAU (zA (cs:=[]) zC1 (zA (cs:=[]) zEx (zI (zF [])))))) zc Tryz.func83 rfl (by decide) rfl (by decide) rfl ?_
 intro ps hT hpre W hW
 simp only[zGS,TyA,Ty,Tys] at hT hpre
 obtain⟨_,_,rfl,⟨_,rfl,_,_,rfl,⟨st,rfl,hst⟩,_,_,rfl,⟨ag,rfl,hag,tag⟩,_,_,rfl,⟨pr,rfl⟩,_,_,rfl,⟨tx,rfl,htx⟩,_,_,rfl,⟨ut,rfl,hut⟩,_,_,rfl,⟨out,rfl,hout,tout⟩,rfl⟩,_,_,rfl,⟨b,rfl,hb⟩,rfl⟩:=hT
 simp only[zE,zG,zBR,zBf,yu] at hpre
 refine hW.vc [] _ _ ?_
 simp[-List.getD_eq_getElem?_getD,zGS,zA3,zBF,zb,zCr,zJ,PR.rv,zCR]
 obtain⟨P,hP⟩:∃P:PR,P=⟨st,ag,pr,tx,ut⟩:=⟨_,rfl⟩
 rw[←hP]
 have hu:zBS [PV.int .u8 (IntKind.u8.wrap b)]=[u8 b]:=rfl
 have hz:zDI [u8 b]=zNj b:=by rw[zDI,u8_n hpre.2]
 rw[hu,hz]
 refine⟨fun h=>?_,fun h=>⟨fun h2=>⟨by omega,?_⟩,fun h2=>⟨fun h3=>⟨by omega,?_⟩,fun h3=>⟨fun h4=>?_,fun h4=>⟨fun h5=>?_,fun h5=>⟨by omega,?_⟩⟩⟩⟩⟩⟩
 ·rw[zBT,if_pos h,hP];simp[rvP,PR.rv]
 ·rw[zBT,if_neg h,if_pos h2,hP];rfl
 ·rw[zBT,if_neg h,if_neg (by simp[h2]),if_pos h3,hP];rfl
 ·rw[zBT,if_neg h,if_neg (by simp[h2]),if_neg (by simp[h3]),if_pos h4,hP];simp[rvP,PR.rv]
 ·rw[zBT,if_neg h,if_neg (by simp[h2]),if_neg (by simp[h3]),if_neg (by omega),if_pos h5,hP];simp[rvP,PR.rv]
 ·rw[zBT,if_neg h,if_neg (by simp[h2]),if_neg (by simp[h3]),if_neg (by omega),if_neg (by omega),hP];rfl
def zB7:zS:=⟨[(.bx,.box [.int .i64,.list (.int .i64),.bool,.str,.str,.list (.agg [.int .i64,.int .i64,.bool,.list (.int .i64),.str])]),(.rd,.int .i64)],[],true,fun ps=>(nth (nth ps 0).A 5).L.length≤900000,fun _=>[],
 fun ps=>[rvP (zBZ (zCR (nth ps 0).A) (nth ps 1).I) (nth (nth ps 0).A 5).L]⟩
theorem zG4:yQ Tryz.prog 77 zB7:=by
 refine zf [0,1] [] (zA (cs:=[]) zC1 (zA (cs:=[]) zC3 (zI (zF [])))) zc Tryz.func77 rfl (by decide) rfl (by decide) rfl ?_
 intro ps hT hpre W hW
 simp only[zB7,TyA,Ty,Tys] at hT hpre
 obtain⟨_,_,rfl,⟨_,rfl,_,_,rfl,⟨st,rfl,hst⟩,_,_,rfl,⟨ag,rfl,hag,tag⟩,_,_,rfl,⟨pr,rfl⟩,_,_,rfl,⟨tx,rfl,htx⟩,_,_,rfl,⟨ut,rfl,hut⟩,_,_,rfl,⟨out,rfl,hout,tout⟩,rfl⟩,_,_,rfl,⟨b,rfl,hb⟩,rfl⟩:=hT
 simp only[zE,zG,zBR,zBf,yu] at hpre
 refine hW.vc [] _ _ ?_
 simp[-List.getD_eq_getElem?_getD,zB7,zBH,zBF,PR.rv,zCR]
 obtain⟨P,hP⟩:∃P:PR,P=⟨st,ag,pr,tx,ut⟩:=⟨_,rfl⟩
 rw[←hP]
 have hE:zSe b=true↔((((b=55∨b=56)∨b=68)∨b=69)∨b=77)∨b=99:=by simp[zSe]
 refine⟨fun h=>?_,fun h=>⟨fun h2=>?_,fun h2=>⟨fun h3=>?_,fun h3=>⟨fun h4=>⟨by omega,?_⟩,fun q1 q2 q3 q4 q5 q6=>?_⟩⟩⟩⟩
 ·rw[zBZ,if_pos h,hP];simp[rvP,PR.rv]
 ·rw[zBZ,if_neg h,if_pos h2,hP];simp[rvP,PR.rv]
 ·rw[zBZ,if_neg h,if_neg h2,if_pos h3,hP];simp[rvP,PR.rv]
 ·rw[zBZ,if_neg h,if_neg h2,if_neg h3,if_pos (hE.2 h4)];rfl
 ·rw[zBZ,if_neg h,if_neg h2,if_neg h3,if_neg (fun q=>by have:=hE.1 q;omega)];simp[rvP,PR.rv]
def zHi:zS:=⟨[(.bx,.box [.int .i64,.list (.int .i64),.bool,.str,.str,.list (.agg [.int .i64,.int .i64,.bool,.list (.int .i64),.str])]),(.rd,.int .i64)],[],true,fun ps=>(nth (nth ps 0).A 5).L.length≤900000∧zDr (zCR (nth ps 0).A)∧(nth (nth ps 0).A 0).I=2∧0≤(nth ps 1).I∧(nth ps 1).I≤255,fun _=>[],
 fun ps=>[rvP (zJf (zCR (nth ps 0).A) (nth ps 1).I) (nth (nth ps 0).A 5).L]⟩
theorem zPv:yQ Tryz.prog 78 zHi:=by
 refine zf [0,1,4,5,6] [] (zA (cs:=[]) zAU (zA (cs:=[]) zEx (zA (cs:=[]) zC1 (zA (cs:=[]) zC3 (zI (zF [])))))) zc Tryz.func78 rfl (by decide) rfl (by decide) rfl ?_
 intro ps hT hpre W hW
 simp only[zHi,TyA,Ty,Tys] at hT hpre
 obtain⟨_,_,rfl,⟨_,rfl,_,_,rfl,⟨st,rfl,hst⟩,_,_,rfl,⟨ag,rfl,hag,tag⟩,_,_,rfl,⟨pr,rfl⟩,_,_,rfl,⟨tx,rfl,htx⟩,_,_,rfl,⟨ut,rfl,hut⟩,_,_,rfl,⟨out,rfl,hout,tout⟩,rfl⟩,_,_,rfl,⟨b,rfl,hb⟩,rfl⟩:=hT
 simp only[zE,zG,zBR,zBf,yu] at hpre
 refine hW.vc [(17,[12,15],tkN [0,1,2,3,4,7,8,9,10,11] (tkM [5] (.alt 6 (.alt 12 (tkN [13] (alN [14,15] .done)) (alN [14,12] (tkN [13] (alS 15 .done)))) (alN [14,6,12] (tkN [13] (alS 15 .done))))))] _ _ ?_
 simp[-List.getD_eq_getElem?_getD,zHi,zBH,zBF,zA3,zb,zJ,PR.rv,zCR]
 obtain⟨P,hP⟩:∃P:PR,P=⟨st,ag,pr,tx,ut⟩:=⟨_,rfl⟩
 rw[zCR] at hpre
 simp only[zE,zG,yu,zBf,zND,zE4] at hpre
 obtain⟨o1,hO,s2,b0,b1⟩:=hpre
 have a8:ag.length≤8:=hO.l
 have a0:0 < ag.length:=List.length_pos_iff.2 (hO.s s2)
 rw[←hP]
 have w1:IntKind.i64.wrap ((ag.length:Int) - 1)=ag.length - 1:=zC (by omega)
 have w2:IntKind.i64.wrap ((ag.length:Int) - 1+1)=ag.length:=by rw[zC (by omega)];omega
 have eN:((ag.length:Int) - 1).toNat=ag.length - 1:=by omega
 rw[w1,w2,eN]
 obtain⟨C,hC⟩:∃C,C=nth ag (ag.length - 1):=⟨_,rfl⟩
 have hc:-1≤C.I∧C.I≤9999:=by
  obtain⟨c,hc,c1,c2⟩:=hO.a _ (yR (show ag.length - 1 < ag.length by omega))
  rw[hC,hc];exact⟨c1,c2⟩
 rw[←hC]
 obtain⟨m,hm⟩:∃m:Int,m=if 0 < C.I then C.I else 0:=⟨_,rfl⟩
 have hm2:0≤m∧m≤9999:=by rw[hm];split<;>omega
 rw[←hm,zC (n:=m*10) (by omega),zC (n:=m*10+b) (by omega),zC (n:=m*10+b - 48) (by omega)]
 have hD:zRn C.I b=if m*10+b - 48 < 9999 then m*10+b - 48 else 9999:=by rw[zRn,←hm]
 have hE:∀x,zJf P b=x→zJf ⟨st,ag,pr,tx,ut⟩ b=x:=fun x q=>by rw[←hP];exact q
 have k1:b=27→zJf P b=({ PR.g with st:=1 },[]):=fun h=>by rw[zJf,if_pos h]
 intro _
 refine⟨fun h=>?_,fun h=>⟨fun h2=>⟨by omega,?_⟩,fun h2=>⟨fun h3=>⟨by omega,by omega,by omega,fun _=>⟨by omega,by omega,?_⟩⟩,fun h3=>⟨fun h4 h5=>⟨by omega,by omega,fun _=>?_⟩,fun h4=>⟨fun h5 h6=>⟨⟨h5,h6⟩,a0⟩,fun h5=>⟨fun h6 h7 h8 h9=>?_,fun h6=>⟨fun h7=>⟨by decide +kernel,by omega,by omega,?_⟩,fun h7=>?_⟩⟩⟩⟩⟩⟩⟩
 ·rw[zJf,if_pos h];simp[rvP,PR.rv]
 ·rw[zJf,if_neg h,if_pos h2,hP];rfl
 ·rw[zJf,if_neg h,if_neg (show ¬zJe b=true by simp[h2]),if_pos h3,hP];simp only[rvP,PR.rv];rw[←hC,hD];simp
 ·rw[zJf,if_neg h,if_neg (by simp[h2]),if_neg (by simp[h3]),if_pos ⟨h4,by rw[hP];show ag.length < 8;omega⟩,hP];simp[rvP,PR.rv]
 ·have q:ag.length=1:=by omega
  rw[zJf,if_neg h,if_neg (by simp[h2]),if_neg (by simp[h3]),if_neg (by omega),if_pos ⟨h6,by rw[hP];exact q,by rw[hP];exact h8,by rw[hP];exact h9⟩,hP];simp[rvP,PR.rv]
 ·have q:¬(b=59∧P.args.length < 8):=fun z=>by have:=h4 z.1;have z2:=z.2;rw[hP] at z2;simp only at z2;omega
  have q2:¬(b=63∧P.args.length=1∧(nth P.args 0).I < 0∧P.priv=false):=fun z=>by
   rw[hP] at z
   obtain⟨z1,z2,z3,z4⟩:=z
   simp only at z2 z3 z4
   have:=h6 z1 (by omega) z3
   rw[z4] at this;cases this
  rw[zJf,if_neg h,if_neg (by simp[h2]),if_neg (by simp[h3]),if_neg q,if_neg q2,if_pos h7,hP];rfl
 ·have q:¬(b=59∧P.args.length < 8):=fun z=>by have:=h4 z.1;have z2:=z.2;rw[hP] at z2;simp only at z2;omega
  have q2:¬(b=63∧P.args.length=1∧(nth P.args 0).I < 0∧P.priv=false):=fun z=>by
   rw[hP] at z
   obtain⟨z1,z2,z3,z4⟩:=z
   simp only at z2 z3 z4
   have:=h6 z1 (by omega) z3
   rw[z4] at this;cases this
  rw[zJf,if_neg h,if_neg (by simp[h2]),if_neg (by simp[h3]),if_neg q,if_neg q2,if_neg (by simp[h7])];simp[rvP,PR.rv]
def zKe:zS:=⟨[(.bx,.box [.int .i64,.list (.int .i64),.bool,.str,.str,.list (.agg [.int .i64,.int .i64,.bool,.list (.int .i64),.str])]),(.rd,.int .i64)],[],true,fun ps=>(nth (nth ps 0).A 5).L.length≤900000,fun _=>[],
 fun ps=>[rvP (zPS (zCR (nth ps 0).A) (nth ps 1).I) (nth (nth ps 0).A 5).L]⟩
theorem zSX:yQ Tryz.prog 79 zKe:=by
 refine zf [0,1] [] (zA (cs:=[]) zAU (zA (cs:=[]) zC3 (zI (zF [])))) zc Tryz.func79 rfl (by decide) rfl (by decide) rfl ?_
 intro ps hT hpre W hW
 simp only[zKe,TyA,Ty,Tys] at hT hpre
 obtain⟨_,_,rfl,⟨_,rfl,_,_,rfl,⟨st,rfl,hst⟩,_,_,rfl,⟨ag,rfl,hag,tag⟩,_,_,rfl,⟨pr,rfl⟩,_,_,rfl,⟨tx,rfl,htx⟩,_,_,rfl,⟨ut,rfl,hut⟩,_,_,rfl,⟨out,rfl,hout,tout⟩,rfl⟩,_,_,rfl,⟨b,rfl,hb⟩,rfl⟩:=hT
 simp only[zE,zG,zBR,zBf,yu] at hpre
 refine hW.vc [] _ _ ?_
 simp[-List.getD_eq_getElem?_getD,zKe,zBH,zb,zJ,PR.rv,zCR]
 obtain⟨P,hP⟩:∃P:PR,P=⟨st,ag,pr,tx,ut⟩:=⟨_,rfl⟩
 rw[←hP]
 refine⟨fun h=>?_,fun h=>⟨fun h2=>?_,fun h2=>?_⟩⟩
 ·rw[zPS,if_pos h,hP];simp[rvP,PR.rv]
 ·rw[zPS,if_neg h,if_pos h2];simp[rvP,PR.rv]
 ·rw[zPS,if_neg h,if_neg (by simp[h2]),hP];simp[rvP,PR.rv]
def zOB:zS:=⟨[(.bx,.box [.int .i64,.list (.int .i64),.bool,.str,.str,.list (.agg [.int .i64,.int .i64,.bool,.list (.int .i64),.str])]),(.rd,.int .i64)],[],true,fun ps=>(nth (nth ps 0).A 5).L.length≤900000∧0≤(nth ps 1).I∧(nth ps 1).I≤255,fun _=>[],
 fun ps=>[rvP (zO1 (zCR (nth ps 0).A) (nth ps 1).I) (nth (nth ps 0).A 5).L]⟩
theorem k_osc:yQ Tryz.prog 80 zOB:=by
 refine zf [0,1,4] [] (zA (cs:=[]) zAU (zA (cs:=[]) zC1 (zA (cs:=[]) zC3 (zI (zF []))))) zc Tryz.func80 rfl (by decide) rfl (by decide) rfl ?_
 intro ps hT hpre W hW
 simp only[zOB,TyA,Ty,Tys] at hT hpre
 obtain⟨_,_,rfl,⟨_,rfl,_,_,rfl,⟨st,rfl,hst⟩,_,_,rfl,⟨ag,rfl,hag,tag⟩,_,_,rfl,⟨pr,rfl⟩,_,_,rfl,⟨tx,rfl,htx⟩,_,_,rfl,⟨ut,rfl,hut⟩,_,_,rfl,⟨out,rfl,hout,tout⟩,rfl⟩,_,_,rfl,⟨b,rfl,hb⟩,rfl⟩:=hT
 simp only[zE,zG,zBR,zBf,yu] at hpre
 refine hW.vc [(7,[13],tkN [0,1,2,3,4,5,6] (alS 7 (tkN [8,9,10,11,12] (alS 13 .done))))] _ _ ?_
 simp[-List.getD_eq_getElem?_getD,zOB,zBH,zBF,zb,zJ,PR.rv,zCR]
 obtain⟨P,hP⟩:∃P:PR,P=⟨st,ag,pr,tx,ut⟩:=⟨_,rfl⟩
 rw[←hP]
 have hu:zBS [PV.int .u8 (IntKind.u8.wrap b)]=[u8 b]:=rfl
 rw[hu]
 refine⟨fun h=>⟨by omega,?_⟩,fun h=>⟨fun h2=>?_,fun h2 h3=>⟨fun h4 h5=>⟨by decide +kernel,by simp only[List.length_singleton];omega,?_⟩,fun h4=>?_⟩⟩⟩
 ·rw[zO1,if_pos h,hP];rfl
 ·rw[zO1,if_neg h,if_pos h2,hP];simp[rvP,PR.rv]
 ·rw[zO1,if_neg h,if_neg h2,if_pos ⟨h4,by rw[hP];show tx.length < 40;omega⟩,hP];simp[rvP,PR.rv]
 ·have q:¬(inB b 32 126=true∧P.txt.length < 40):=fun z=>by have:=h4 z.1;have z2:=z.2;rw[hP] at z2;simp only at z2;omega
  rw[zO1,if_neg h,if_neg h2,if_neg q,hP];simp[rvP,PR.rv]
end
section
variable [zZ]
def zEN:zS:=⟨[(.bx,.box [.int .i64,.list (.int .i64),.bool,.str,.str,.list (.agg [.int .i64,.int .i64,.bool,.list (.int .i64),.str])]),(.rd,.int .i64)],[],true,fun ps=>(nth (nth ps 0).A 5).L.length≤900000∧0≤(nth ps 1).I∧(nth ps 1).I≤255∧(nth (nth ps 0).A 0).I=0,fun _=>[],
 fun ps=>[rvP (zBT (zCR (nth ps 0).A) (nth ps 1).I) (nth (nth ps 0).A 5).L]⟩
theorem zMR:yQ Tryz.prog 65 zEN:=by
 refine zf [0,1,8] [] (zA (cs:=[]) zMP (zI (zF []))) zc Tryz.func65 rfl (by decide) rfl (by decide) rfl ?_
 intro ps hT hpre W hW
 simp only[zEN,TyA,Ty,Tys] at hT hpre
 obtain⟨_,_,rfl,⟨_,rfl,_,_,rfl,⟨st,rfl,hst⟩,_,_,rfl,⟨ag,rfl,hag,tag⟩,_,_,rfl,⟨pr,rfl⟩,_,_,rfl,⟨tx,rfl,htx⟩,_,_,rfl,⟨ut,rfl,hut⟩,_,_,rfl,⟨out,rfl,hout,tout⟩,rfl⟩,_,_,rfl,⟨b,rfl,hb⟩,rfl⟩:=hT
 simp only[zE,zG,zBR,zBf,yu] at hpre
 obtain⟨o1,b0,b1,s0⟩:=hpre
 subst s0
 refine hW.vc [] _ _ ?_
 simp[-List.getD_eq_getElem?_getD,zEN,zGS,PR.rv,zCR,rvP]
 omega
def zEM:zS:=⟨[(.bx,.box [.int .i64,.list (.int .i64),.bool,.str,.str,.list (.agg [.int .i64,.int .i64,.bool,.list (.int .i64),.str])]),(.rd,.int .i64)],[],true,fun ps=>(nth (nth ps 0).A 5).L.length≤900000∧(nth (nth ps 0).A 0).I=1,fun _=>[],
 fun ps=>[rvP (zBZ (zCR (nth ps 0).A) (nth ps 1).I) (nth (nth ps 0).A 5).L]⟩
theorem zMQ:yQ Tryz.prog 65 zEM:=by
 refine zf [0,1,8] [] (zA (cs:=[]) zG4 (zI (zF []))) zc Tryz.func65 rfl (by decide) rfl (by decide) rfl ?_
 intro ps hT hpre W hW
 simp only[zEM,TyA,Ty,Tys] at hT hpre
 obtain⟨_,_,rfl,⟨_,rfl,_,_,rfl,⟨st,rfl,hst⟩,_,_,rfl,⟨ag,rfl,hag,tag⟩,_,_,rfl,⟨pr,rfl⟩,_,_,rfl,⟨tx,rfl,htx⟩,_,_,rfl,⟨ut,rfl,hut⟩,_,_,rfl,⟨out,rfl,hout,tout⟩,rfl⟩,_,_,rfl,⟨b,rfl,hb⟩,rfl⟩:=hT
 simp only[zE,zG,zBR,zBf,yu] at hpre
 obtain⟨o1,s0⟩:=hpre
 subst s0
 refine hW.vc [] _ _ ?_
 simp[-List.getD_eq_getElem?_getD,zEM,zB7,PR.rv,zCR,rvP]
 omega
def zFM:zS:=⟨[(.bx,.box [.int .i64,.list (.int .i64),.bool,.str,.str,.list (.agg [.int .i64,.int .i64,.bool,.list (.int .i64),.str])]),(.rd,.int .i64)],[],true,fun ps=>(nth (nth ps 0).A 5).L.length≤800000,fun _=>[],
 fun ps=>[rvP (zEc (zCR (nth ps 0).A) (nth ps 1).I) (nth (nth ps 0).A 5).L]⟩
theorem zNo:yQ Tryz.prog 81 zFM:=by
 refine zf [0,1,4] [] (zA (cs:=[]) zMQ (zA (cs:=[]) zC1 (zA (cs:=[]) zC3 (zI (zF []))))) zc Tryz.func81 rfl (by decide) rfl (by decide) rfl ?_
 intro ps hT hpre W hW
 simp only[zFM,TyA,Ty,Tys] at hT hpre
 obtain⟨_,_,rfl,⟨_,rfl,_,_,rfl,⟨st,rfl,hst⟩,_,_,rfl,⟨ag,rfl,hag,tag⟩,_,_,rfl,⟨pr,rfl⟩,_,_,rfl,⟨tx,rfl,htx⟩,_,_,rfl,⟨ut,rfl,hut⟩,_,_,rfl,⟨out,rfl,hout,tout⟩,rfl⟩,_,_,rfl,⟨b,rfl,hb⟩,rfl⟩:=hT
 simp only[zE,zG,zBR,zBf,yu] at hpre
 refine hW.vc [] _ _ ?_
 simp[-List.getD_eq_getElem?_getD,zFM,zBH,zBF,zEM,PR.rv,zCR,rvP]
 refine⟨fun h=>⟨by omega,?_⟩,fun h=>⟨by omega,?_⟩⟩
 ·rw[zEc,if_pos h];exact⟨rfl,rfl,rfl,rfl,rfl,rfl⟩
 ·rw[zEc,if_neg h];exact⟨rfl,rfl,rfl,rfl,rfl,rfl⟩
def zOA:zS:=⟨[(.bx,.box [.int .i64,.list (.int .i64),.bool,.str,.str,.list (.agg [.int .i64,.int .i64,.bool,.list (.int .i64),.str])]),(.rd,.int .i64)],[],true,fun ps=>(nth (nth ps 0).A 5).L.length≤800000∧(nth (nth ps 0).A 4).S.length≤3∧0≤(nth ps 1).I∧(nth ps 1).I≤255,fun _=>[],
 fun ps=>[rvP (zPN (zCR (nth ps 0).A) (nth ps 1).I) (nth (nth ps 0).A 5).L]⟩
theorem k_utf:yQ Tryz.prog 82 zOA:=by
 refine zf [0,1,4] [] (zA (cs:=[]) zMV (zA (cs:=[]) zIS (zA (cs:=[]) zMR (zA (cs:=[]) zC1 (zA (cs:=[]) zC3 (zA (cs:=[]) zMW (zI (zF [])))))))) zc Tryz.func82 rfl (by decide) rfl (by decide) rfl ?_
 intro ps hT hpre W hW
 simp only[zOA,TyA,Ty,Tys] at hT hpre
 obtain⟨_,_,rfl,⟨_,rfl,_,_,rfl,⟨st,rfl,hst⟩,_,_,rfl,⟨ag,rfl,hag,tag⟩,_,_,rfl,⟨pr,rfl⟩,_,_,rfl,⟨tx,rfl,htx⟩,_,_,rfl,⟨ut,rfl,hut⟩,_,_,rfl,⟨out,rfl,hout,tout⟩,rfl⟩,_,_,rfl,⟨b,rfl,hb⟩,rfl⟩:=hT
 simp only[zE,zG,zBR,zBf,yu,zE4] at hpre
 refine hW.vc [(0,[],tkN [0,1,2,3,4,5,6] (alS 7 (tkN [8,9] (alS 10 .done))))] _ _ ?_
 simp[-List.getD_eq_getElem?_getD,zOA,zB9,zBH,zBF,zEN,zCr,yb,PR.rv,zCR,rvP]
 obtain⟨P,hP⟩:∃P:PR,P=⟨st,ag,pr,tx,ut⟩:=⟨_,rfl⟩
 rw[←hP]
 have hu:zBS [PV.int .u8 (IntKind.u8.wrap b)]=[u8 b]:=rfl
 rw[hu]
 have hl:(ut++[u8 b]).length=ut.length+1:=by simp
 have l1:([u8 b]:List UInt8).length=1:=rfl
 refine⟨by decide +kernel,by omega,fun h=>⟨by omega,⟨by omega,hpre.2.2.1,hpre.2.2.2,rfl⟩,?_⟩,fun h _=>⟨fun h2=>?_,fun h2=>⟨⟨by omega,by omega⟩,by omega,?_⟩⟩⟩
 ·rw[zPN,if_pos (by rw[hP];exact h)];exact⟨rfl,rfl,rfl,rfl,rfl,rfl⟩
 ·rw[zPN,if_neg (by rw[hP];simp[h]),if_pos (by rw[hP];show((ut++[u8 b]).length:Int) < zDI (ut++[u8 b]);omega),hP];exact⟨rfl,rfl,rfl,rfl,rfl,rfl⟩
 ·rw[zPN,if_neg (by rw[hP];simp[h]),if_neg (by rw[hP];show ¬((ut++[u8 b]).length:Int) < zDI (ut++[u8 b]);omega),hP];exact⟨rfl,rfl,rfl,rfl,rfl,rfl⟩
def zDA:zS:=⟨[(.bx,.box [.int .i64,.list (.int .i64),.bool,.str,.str,.list (.agg [.int .i64,.int .i64,.bool,.list (.int .i64),.str])]),(.rd,.int .i64)],[],true,fun ps=>(nth (nth ps 0).A 5).L.length≤700000∧zDr (zCR (nth ps 0).A)∧0≤(nth ps 1).I∧(nth ps 1).I≤255,fun _=>[],
 fun ps=>[rvP (zDt (zCR (nth ps 0).A) (nth ps 1).I) (nth (nth ps 0).A 5).L]⟩
theorem zNp:yQ Tryz.prog 65 zDA:=by
 refine zf [0,1,8] [] (zA (cs:=[]) zMP (zA (cs:=[]) k_utf (zA (cs:=[]) zNo (zA (cs:=[]) k_osc (zA (cs:=[]) zSX (zA (cs:=[]) zPv (zA (cs:=[]) zG4 (zI (zF []))))))))) zc Tryz.func65 rfl (by decide) rfl (by decide) rfl ?_
 intro ps hT hpre W hW
 simp only[zDA,TyA,Ty,Tys] at hT hpre
 obtain⟨_,_,rfl,⟨_,rfl,_,_,rfl,⟨st,rfl,hst⟩,_,_,rfl,⟨ag,rfl,hag,tag⟩,_,_,rfl,⟨pr,rfl⟩,_,_,rfl,⟨tx,rfl,htx⟩,_,_,rfl,⟨ut,rfl,hut⟩,_,_,rfl,⟨out,rfl,hout,tout⟩,rfl⟩,_,_,rfl,⟨b,rfl,hb⟩,rfl⟩:=hT
 simp only[zE,zG,zBR,zBf,yu] at hpre
 refine hW.vc [] _ _ ?_
 simp[-List.getD_eq_getElem?_getD,zDA,zB7,zHi,zKe,zOB,zFM,zOA,zGS,PR.rv,zCR,rvP]
 obtain⟨o1,hO,b0,b1⟩:=hpre
 rw[zCR] at hO
 simp only[zE,zG,yu,zBf,zND,zE4] at hO
 obtain⟨P,hP⟩:∃P:PR,P=⟨st,ag,pr,tx,ut⟩:=⟨_,rfl⟩
 have hs:P.st=st:=by rw[hP]
 rw[←hP] at hO ⊢
 have hut:P.st=6→ut.length≤3:=fun q=>by have:=hO.ul q;rwa[hP] at this
 refine⟨fun h=>⟨by omega,?_⟩,fun h=>⟨fun h2=>⟨⟨by omega,hO,h2,b0,b1⟩,?_⟩,fun h2=>⟨fun h3=>⟨by omega,?_⟩,fun h3=>⟨fun h4=>⟨⟨by omega,b0,b1⟩,?_⟩,fun h4=>⟨fun h5=>⟨by omega,?_⟩,fun h5=>⟨fun h6=>⟨⟨by omega,hut (hs.trans h6),b0,b1⟩,?_⟩,fun h6=>⟨⟨by omega,b0,b1⟩,?_⟩⟩⟩⟩⟩⟩⟩
 ·rw[zDt,hs,if_pos h];exact⟨rfl,rfl,rfl,rfl,rfl,rfl⟩
 ·rw[zDt,hs,if_neg h,if_pos h2];exact⟨rfl,rfl,rfl,rfl,rfl,rfl⟩
 ·rw[zDt,hs,if_neg h,if_neg h2,if_pos h3];exact⟨rfl,rfl,rfl,rfl,rfl,rfl⟩
 ·rw[zDt,hs,if_neg h,if_neg h2,if_neg h3,if_pos h4];exact⟨rfl,rfl,rfl,rfl,rfl,rfl⟩
 ·rw[zDt,hs,if_neg h,if_neg h2,if_neg h3,if_neg h4,if_pos h5];exact⟨rfl,rfl,rfl,rfl,rfl,rfl⟩
 ·rw[zDt,hs,if_neg h,if_neg h2,if_neg h3,if_neg h4,if_neg h5,if_pos h6];exact⟨rfl,rfl,rfl,rfl,rfl,rfl⟩
 ·rw[zDt,hs,if_neg h,if_neg h2,if_neg h3,if_neg h4,if_neg h5,if_neg h6];exact⟨rfl,rfl,rfl,rfl,rfl,rfl⟩
def zDC:zS:=⟨[(.rd,.agg [.int .i64,.list (.int .i64),.bool,.str,.str])],[.agg [.int .i64,.list (.int .i64),.bool,.str,.str]],true,fun ps=>(nth (nth ps 0).A 1).L.length≤1000,fun ps=>[(zCR (nth ps 0).A).pv],fun _=>[]⟩
theorem zNs:yQ Tryz.prog 64 zDC:=by
 refine zf [0,1,2] [.cell 2 64] (zI (zF [])) zc Tryz.func64 rfl (by decide) rfl (by decide) rfl ?_
 intro ps hT hpre W hW
 simp only[zDC,TyA,Ty,Tys] at hT hpre
 obtain⟨_,_,rfl,⟨_,rfl,_,_,rfl,⟨st,rfl,hst⟩,_,_,rfl,⟨ag,rfl,hag,tag⟩,_,_,rfl,⟨pr,rfl⟩,_,_,rfl,⟨tx,rfl,htx⟩,_,_,rfl,⟨ut,rfl,hut⟩,rfl⟩,rfl⟩:=hT
 simp only[zE,zG,zBR,zBf,yu] at hpre
 refine hW.vc [] _ _ ?_
 simp[-List.getD_eq_getElem?_getD,zDC,PR.pv,zCR]
 omega
def zAN:zS:=⟨[(.rd,.agg [.int .i64,.list (.int .i64),.bool,.str,.str]),(.rd,.str)],[.agg [.int .i64,.list (.int .i64),.bool,.str,.str],.list (.agg [.int .i64,.int .i64,.bool,.list (.int .i64),.str])],true,fun ps=>zDr (zCR (nth ps 0).A)∧(nth ps 1).S.length≤100000,fun ps=>[(zAg (zCR (nth ps 0).A) (nth ps 1).S []).1.pv,.list (zAg (zCR (nth ps 0).A) (nth ps 1).S []).2],fun _=>[]⟩
set_option maxHeartbeats 1000000 in
theorem zK6:yQ Tryz.prog 49 zAN:=by
 refine zf [0,1,2,4,5,6,7] [.cell 4 64,.tmp 5] (zA (cs:=[]) zNp (zA (cs:=[]) zNs (zI (zF [])))) zc Tryz.func49 rfl (by decide) rfl (by decide) rfl ?_
 intro ps hT hpre W hW
 simp only[zAN,TyA,Ty,Tys] at hT hpre
 obtain⟨_,_,rfl,⟨_,rfl,_,_,rfl,⟨st,rfl,hst⟩,_,_,rfl,⟨ag,rfl,hag,tag⟩,_,_,rfl,⟨pr,rfl⟩,_,_,rfl,⟨tx,rfl,htx⟩,_,_,rfl,⟨ut,rfl,hut⟩,rfl⟩,_,_,rfl,⟨t,rfl,ht⟩,rfl⟩:=hT
 simp only[zE,zG,zBR,zBf,yu,zE4] at hpre
 refine hW.vc [(6,[9],tkN [0,1,2,3,5,6,7] (tkM [8] (alN [4,9,10] .done)))] _ _ ?_
 simp[-List.getD_eq_getElem?_getD,zAN,zDC,zDA,PR.pv,zCR]
 have hO:=hpre.1
 rw[zCR] at hO
 simp only[zE,zG,yu,zBf,zND,zE4] at hO
 have a8:ag.length≤8:=hO.l
 refine⟨by omega,?_⟩
 refine hW.loopS _ _ _ [.bx 6 [.int .i64,.list (.int .i64),.bool,.str,.str,.list (.agg [.int .i64,.int .i64,.bool,.list (.int .i64),.str])],.sl 7 .dp (.int .i64)] (fun ys=>∃(i:Nat) (P:PR) (out:List PV),ys=[P.rv out,.int .i64 i]∧i≤t.length∧zDr P∧out.length≤2*i∧zAg ⟨st,ag,pr,tx,ut⟩ t []=zAg P (t.drop i) out) (fun ys=>t.length - (nth ys 1).I.toNat) ?_ ?_
 ·simp[-List.getD_eq_getElem?_getD,zAN,zDC,zDA,PR.rv]
  exact⟨0,⟨st,ag,pr,tx,ut⟩,[],⟨⟨rfl,rfl,rfl,rfl,rfl,rfl⟩,rfl⟩,by omega,hO,by simp,rfl⟩
 ·rintro ys ⟨i,P,out,rfl,g0,g1,g2,g3⟩
  have w1:IntKind.i64.wrap ((i:Int)+1)=i+1:=zC (by omega)
  obtain⟨c,hc⟩:∃c,c=t.getD i 0:=⟨_,rfl⟩
  have hc2:=c.toNat_lt
  have w2:IntKind.i64.wrap (c.toNat:Int)=c.toNat:=zC (by omega)
  obtain⟨R,hR⟩:∃R,R=zAg ⟨st,ag,pr,tx,ut⟩ t []:=⟨_,rfl⟩
  rw[←hR] at g3
  have hG:=zLf g1 (b:=c.toNat) ⟨by omega,by omega⟩
  have hl:=g1.l
  obtain⟨q1,q2,q3,q4,q5⟩:=P
  refine hW.vc [(6,[9],tkN [0,1,2,3,5,6,7] (tkM [8] (alN [4,9,10] .done)))] _ _ ?_
  simp[-List.getD_eq_getElem?_getD,zAN,zDC,zDA,PR.rv,PR.pv,zCR,rvP,w1,←hc,w2,←hR]
  refine fun _=>⟨fun h=>⟨h,⟨by omega,g1,by omega⟩,⟨i+1,_,_,⟨⟨rfl,rfl,rfl,rfl,rfl,rfl⟩,rfl⟩,by omega,hG.1,?_,?_⟩,by omega⟩,fun h=>⟨by decide +kernel,Nat.le_trans hl (by omega),?_⟩⟩
  ·have:=hG.2.2
   rw[List.length_append];omega
  ·have e:t.drop i=c :: t.drop (i+1):=by
    rw[hc,List.drop_eq_getElem_cons h];simp[h]
   rw[g3,e,zAg]
  ·rw[g3,List.drop_eq_nil_of_le h];exact⟨⟨rfl,rfl,rfl,rfl,rfl⟩,rfl⟩
end
section
variable [zZ]
theorem zII{l m:List PV}(h:l.length=m.length)(hn:∀i,i < l.length→nth l i=nth m i):l=m:=
 List.ext_getElem h fun i h1 h2=>by rw[←zEv h1,←zEv h2];exact hn i h1
theorem zGy{l m:List PV}{i:Nat}:nth (l++m) i=if i < l.length then nth l i else nth m (i - l.length):=by
 unfold nth
 rw[List.getD_eq_getElem?_getD,List.getElem?_append]
 split<;>rfl
theorem zA5{l:List PV}{n i:Nat}:nth (l.drop n) i=nth l (n+i):=by
 unfold nth
 rw[List.getD_eq_getElem?_getD,List.getElem?_drop];rfl
theorem zBV{l:List PV}{n i:Nat}(h:i < n):nth (l.take n) i=nth l i:=by
 unfold nth
 rw[List.getD_eq_getElem?_getD,List.getElem?_take_of_lt h];rfl
theorem zGx{n i:Nat}{x:PV}(h:i < n):nth (List.replicate n x) i=x:=by
 rw[zEv (by simpa using h)];simp
theorem zMC{l:List PV}{k i:Nat}{x:PV}(h:i < l.length):nth (l.set k x) i=if k=i then x else nth l i:=by
 rw[zEv (by simpa using h),List.getElem_set]
 split
 ·rfl
 ·rw[zEv h]
theorem zSs{cs:List PV}{a:Nat}:zB6 cs a a=cs:=by simp[zB6]
theorem zSt{cs:List PV}{a i:Nat}(h1:a≤i)(h2:i < cs.length):(zB6 cs a i).set i blC=zB6 cs a (i+1):=by
 have l1:=zA8 (cs:=cs) (a:=a) (b:=i) (by omega) h1
 have l2:=zA8 (cs:=cs) (a:=a) (b:=i+1) (by omega) (by omega)
 refine zII (by rw[List.length_set,l1,l2]) fun j hj=>?_
 rw[List.length_set,l1] at hj
 rw[zMC (by omega)]
 simp only[zB6,zGy,zA5,List.length_take,List.length_replicate]
 by_cases c1:j < a
 ·rw[if_pos (show j < min a cs.length by omega),if_pos (show j < min a cs.length by omega),if_neg (by omega)]
 ·rw[if_neg (show ¬j < min a cs.length by omega),if_neg (show ¬j < min a cs.length by omega)]
  by_cases c2:i=j
  ·rw[if_pos c2,if_pos (by omega),zGx (by omega)]
  ·rw[if_neg c2]
   by_cases c3:j < i
   ·rw[if_pos (by omega),if_pos (by omega),zGx (by omega),zGx (by omega)]
   ·rw[if_neg (by omega),if_neg (by omega)];congr 1;omega
def shU(cs:List PV)(w lo i:Nat):List PV:=cs.take lo++((cs.drop (lo+w)).take (i - lo)++cs.drop i)
theorem zDZ{cs:List PV}{w lo i:Nat}(h1:lo≤i)(h2:i+w≤cs.length):(shU cs w lo i).length=cs.length:=by
 simp only[shU,List.length_append,List.length_take,List.length_drop];omega
theorem zNP{cs:List PV}{w lo:Nat}:shU cs w lo lo=cs:=by simp[shU]
theorem zCe{cs:List PV}{w lo i j:Nat}(h1:lo≤i)(h2:i+w≤cs.length)(hj:j < cs.length):nth (shU cs w lo i) j=if j < lo then nth cs j else if j < i then nth cs (j+w) else nth cs j:=by
 simp only[shU,zGy,zA5,List.length_take,List.length_drop]
 by_cases c1:j < lo
 ·rw[if_pos (by omega),if_pos c1,zBV c1]
 ·rw[if_neg (by omega),if_neg c1]
  by_cases c2:j < i
  ·rw[if_pos (by omega),if_pos c2,zBV (by omega),zA5];congr 1;omega
  ·rw[if_neg (by omega),if_neg c2];congr 1;omega
theorem zNQ{cs:List PV}{w lo i:Nat}(h1:lo≤i)(h2:i+1+w≤cs.length):(shU cs w lo i).set i (nth (shU cs w lo i) (i+w))=shU cs w lo (i+1):=by
 have l1:=zDZ (cs:=cs) (w:=w) h1 (by omega)
 have l2:=zDZ (cs:=cs) (w:=w) (i:=i+1) (lo:=lo) (by omega) (by omega)
 refine zII (by rw[List.length_set,l1,l2]) fun j hj=>?_
 rw[List.length_set,l1] at hj
 rw[zMC (by omega),zCe h1 (by omega) (by omega),zCe h1 (by omega) hj,zCe (by omega) (by omega) hj]
 by_cases c:i=j
 ·subst c
  rw[if_pos rfl,if_neg (by omega),if_neg (by omega),if_neg (by omega),if_pos (by omega)]
 ·rw[if_neg c]
  by_cases c1:j < lo
  ·rw[if_pos c1,if_pos c1]
  ·rw[if_neg c1,if_neg c1]
   by_cases c2:j < i
   ·rw[if_pos c2,if_pos (by omega)]
   ·rw[if_neg c2,if_neg (by omega)]
theorem zMx{cs:List PV}{a b j:Nat}(h:b≤cs.length)(hab:a≤b)(hj:j < cs.length):nth (zB6 cs a b) j=if j < a then nth cs j else if j < b then blC else nth cs j:=by
 simp only[zB6,zGy,zA5,List.length_take,List.length_replicate]
 by_cases c1:j < a
 ·rw[if_pos (by omega),if_pos c1,zBV c1]
 ·rw[if_neg (by omega),if_neg c1]
  by_cases c2:j < b
  ·rw[if_pos (by omega),if_pos c2,zGx (by omega)]
  ·rw[if_neg (by omega),if_neg c2];congr 1;omega
theorem zNK{cs:List PV}{w h a b:Nat}(hc:cs.length=h*w)(hb:b < h)(hab:a≤b):zB6 (shU cs w (a*w) (b*w)) (b*w) ((b+1)*w)=upC cs w a b:=by
 obtain⟨q1,q2,q3,q4⟩:=zHj (w:=w) hb hab
 have q5:(a+1)*w=a*w+w:=by rw[Nat.add_mul,Nat.one_mul]
 have l1:=zDZ (cs:=cs) (w:=w) q1 (by omega)
 have l2:=zA8 (cs:=shU cs w (a*w) (b*w)) (a:=b*w) (b:=(b+1)*w) (by omega) (by omega)
 refine zII (by rw[l2,l1,zLc hc hb hab]) fun j hj=>?_
 rw[l2,l1] at hj
 rw[zMx (by omega) (by omega) (by omega),zCe q1 (by omega) hj]
 simp only[upC,zGy,zA5,List.length_take,List.length_drop,List.length_replicate]
 by_cases c1:j < a*w
 ·rw[if_pos (by omega),if_pos c1,if_pos (by omega),zBV c1]
 ·rw[if_neg c1,if_neg (show ¬j < min (a*w) cs.length by omega)]
  by_cases c2:j < b*w
  ·rw[if_pos c2,if_pos c2,if_pos (by omega),zBV (by omega),zA5];congr 1;omega
  ·simp only[if_neg c2]
   rw[if_neg (show ¬j - min (a*w) cs.length < min ((b - a)*w) (cs.length - (a+1)*w) by omega)]
   by_cases c3:j < (b+1)*w
   ·rw[if_pos c3,if_pos (by omega),zGx (by omega)]
   ·rw[if_neg c3,if_neg (by omega)];congr 1;omega
def shD(cs:List PV)(w hi j:Nat):List PV:=cs.take j++((cs.drop (j - w)).take (hi - j)++cs.drop hi)
theorem zFd{cs:List PV}{w hi j:Nat}(h1:j≤hi)(h2:hi≤cs.length):(shD cs w hi j).length=cs.length:=by
 simp only[shD,List.length_append,List.length_take,List.length_drop];omega
theorem zSD{cs:List PV}{w hi:Nat}:shD cs w hi hi=cs:=by simp[shD]
theorem zEZ{cs:List PV}{w hi j i:Nat}(h0:w≤j)(h1:j≤hi)(h2:hi≤cs.length)(hi':i < cs.length):nth (shD cs w hi j) i=if i < j then nth cs i else if i < hi then nth cs (i - w) else nth cs i:=by
 simp only[shD,zGy,zA5,List.length_take,List.length_drop]
 by_cases c1:i < j
 ·rw[if_pos (by omega),if_pos c1,zBV c1]
 ·rw[if_neg (by omega),if_neg c1]
  by_cases c2:i < hi
  ·rw[if_pos (by omega),if_pos c2,zBV (by omega),zA5];congr 1;omega
  ·rw[if_neg (by omega),if_neg c2];congr 1;omega
theorem zSE{cs:List PV}{w hi j:Nat}(h0:w≤j)(h1:j+1≤hi)(h2:hi≤cs.length):(shD cs w hi (j+1)).set j (nth (shD cs w hi (j+1)) (j - w))=shD cs w hi j:=by
 have l1:=zFd (cs:=cs) (w:=w) h1 h2
 have l2:=zFd (cs:=cs) (w:=w) (j:=j) (hi:=hi) (by omega) h2
 refine zII (by rw[List.length_set,l1,l2]) fun i hi'=>?_
 rw[List.length_set,l1] at hi'
 rw[zMC (by omega),zEZ (by omega) h1 h2 (by omega),zEZ (by omega) h1 h2 hi',zEZ h0 (by omega) h2 hi']
 by_cases c:j=i
 ·subst c
  rw[if_pos rfl,if_pos (by omega),if_neg (by omega),if_pos (by omega)]
 ·rw[if_neg c]
  by_cases c1:i < j
  ·rw[if_pos (by omega),if_pos c1]
  ·rw[if_neg (by omega),if_neg c1]
theorem zSg{cs:List PV}{w h a b:Nat}(hc:cs.length=h*w)(hb:b < h)(hab:a≤b):zB6 (shD cs w ((b+1)*w) ((a+1)*w)) (a*w) ((a+1)*w)=dnC cs w a b:=by
 obtain⟨q1,q2,q3,q4⟩:=zHj (w:=w) hb hab
 have q5:(a+1)*w=a*w+w:=by rw[Nat.add_mul,Nat.one_mul]
 have l1:=zFd (cs:=cs) (w:=w) (hi:=(b+1)*w) (j:=(a+1)*w) (by omega) (by omega)
 have l2:=zA8 (cs:=shD cs w ((b+1)*w) ((a+1)*w)) (a:=a*w) (b:=(a+1)*w) (by omega) (by omega)
 refine zII (by rw[l2,l1,zMt hc hb hab]) fun j hj=>?_
 rw[l2,l1] at hj
 rw[zMx (by omega) (by omega) (by omega),zEZ (by omega) (by omega) (by omega) hj]
 simp only[dnC,zGy,zA5,List.length_take,List.length_drop,List.length_replicate]
 by_cases c1:j < a*w
 ·rw[if_pos c1,if_pos (by omega),if_pos (by omega),zBV c1]
 ·rw[if_neg c1,if_neg (show ¬j < min (a*w) cs.length by omega)]
  by_cases c2:j < (a+1)*w
  ·rw[if_pos c2,if_pos (by omega),zGx (by omega)]
  ·simp only[if_neg c2]
   rw[if_neg (show ¬j - min (a*w) cs.length < w by omega)]
   by_cases c3:j < (b+1)*w
   ·rw[if_pos c3,if_pos (by omega),zBV (by omega),zA5];congr 1;omega
   ·rw[if_neg c3,if_neg (by omega)];congr 1;omega
theorem zJw(cs:List PV)(c:PV):zFD (cs++[c])=zFD cs++zCM (nth c.A 0).I:=by simp[zFD]
theorem zHF:∀(cs:List PV) (c:PV),zHu (cs++[c])=if (nth c.A 0).I=32 then zHu cs else cs++[c]
 | [],c=>by simp only[List.nil_append,zHu];split<;>simp_all
 | x :: cs,c=>by
  rw[List.cons_append,zHu,zHF cs c]
  by_cases h:(nth c.A 0).I=32
  ·rw[if_pos h,if_pos h,zHu]
  ·rw[if_neg h,if_neg h,if_neg]
   rintro⟨q,_⟩;simp at q
theorem zLe:∀cs:List PV,∃r,cs=zHu cs++r
 | []=>⟨[],rfl⟩
 | c :: cs=>by
  obtain⟨r,hr⟩:=zLe cs
  rw[zHu]
  split
  ·exact⟨c :: cs,rfl⟩
  ·exact⟨r,by rw[List.cons_append,←hr]⟩
theorem zLd(cs:List PV):(zFD cs).take (zFD (zHu cs)).length=zFD (zHu cs):=by
 obtain⟨r,hr⟩:=zLe cs
 have e:zFD cs=zFD (zHu cs)++zFD r:=by
  conv=>lhs;rw[hr]
  simp[zFD]
 rw[e,List.take_left' rfl]
theorem zPP{cs:List PV}:(zFD cs).length≤4*cs.length:=by
 induction cs with
 | nil=>simp[zFD]
 | cons c cs ih=>
  have e:zFD (c :: cs)=zCM (nth c.A 0).I++zFD cs:=rfl
  have:=(zBy (r:=(nth c.A 0).I)).2
  rw[e,List.length_append,List.length_cons];omega
theorem zPR(cs:List PV):(zFD (zHu cs)).length≤(zFD cs).length:=by
 have:=congrArg List.length (zLd cs)
 rw[List.length_take] at this;omega
theorem zLv(cs:List PV)(c:PV):zGa (cs++[c])=zGa cs++(nB (nth c.A 0).I 3++[zBB (nth c.A 1).I]):=by simp[zGa]
theorem zN8{c:PV}(h:ceI c):zAF (nth c.A 0).I=true:=by
 obtain⟨r,l,rfl,r1,r2,r3,r4,l1,l2⟩:=h
 simp only[cel,zBR,zE,yu,zAF,Bool.and_eq_true,bne_iff_ne,Bool.not_eq_true',ne_eq]
 refine⟨⟨zDp.2 ⟨r1,r2⟩,r3⟩,?_⟩
 cases hq:inB r 55296 57343 with
 | false=>rfl
 | true=>exact absurd (zDp.1 hq) r4
end
end Go.Proofs.YtdmbfkooebldcaaGreatDoor
