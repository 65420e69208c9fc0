/-
  Part 31: contracts of functions, and the laws by which they are proved.
  Conditions: none.
-/
import Derived.Test.YthogljppoiekaaaGreatW23
set_option linter.unusedVariables false
set_option linter.unusedSimpArgs false
set_option linter.unusedSectionVars false
set_option maxRecDepth 100000
namespace Go.Proofs.YthogljppoiekaaaGreat
section
variable [zS]
def zAb:zJ:=⟨[(.rd,.str)],[.list .str,.int .i64,.int .i64],true,fun ps=>(nth ps 0).S.length≤900000,fun ps=>[.list (zBw (nth ps 0).S).1,.int .i64 (zBw (nth ps 0).S).2.1,.int .i64 (zBw (nth ps 0).S).2.2],fun _=>[]⟩
theorem zTR:zh Tryz.prog 135 zAb:=by
 refine zP [0,2,3,4,5,6,7,8,9] [.tmp 2,.tmp 3,.tmp 4] (zA (cs:=[]) zTZ (zA (cs:=[]) zA9 (zA (cs:=[]) zMg (zD (zB []))))) mixed Tryz.func135 rfl (by decide) rfl (by decide) rfl ?_
 intro ps hT hpre W hW
 simp only[zAb,TyA,Ty,Tys] at hT hpre
 obtain⟨_,_,rfl,⟨b,rfl,hb⟩,rfl⟩:=hT
 simp only[zE,zEW] at hpre
 refine hW.vc [(13,[],tkN [0,1,3,4,5,6] (alN [2,7] (tkN [8] .done)))] _ _ ?_
 simp[-List.getD_eq_getElem?_getD,zAb,zB5,zT,zEv,zA3,zA3]
 refine hW.loopS _ _ _ [.sl 5 .dp (.list .str),.sl 6 .dp (.int .i64)] (fun ys=>∃(acc:List PV) (p:Nat),ys=[.list acc,.int .i64 p]∧p≤b.length∧acc.length≤p∧∃k:Nat,b.length≤p+k∧zBw b=(acc++(zCB k (b.drop p)).1,p+(zCB k (b.drop p)).2.1,(zCB k (b.drop p)).2.2)) (fun ys=>b.length - (nth ys 1).I.toNat) ?_ ?_
 ·simp[-List.getD_eq_getElem?_getD,zAb,zB5,zT,zEv,zA3]
  exact⟨[],0,⟨rfl,rfl⟩,by omega,by simp,b.length,by omega,by simp[zBw]⟩
 ·rintro ys ⟨acc,p,rfl,g1,g2,k,g3,g4⟩
  refine hW.vc [(13,[],tkN [0,1,3,4,5,6] (alN [2,7] (tkN [8] .done)))] _ _ ?_
  simp[-List.getD_eq_getElem?_getD,zAb,zB5,zT,zEv,zA3,zA3]
  have eT:List.take (b.length - p) (List.drop p b)=List.drop p b:=List.take_of_length_le (by simp)
  rw[eT]
  have hd:(b.drop p).length=b.length - p:=List.length_drop
  generalize hr:b.drop p=r at *
  have hn:0≤zB6 (r.take 3)∧zB6 (r.take 3) < 72057594037927936:=by
   have:=zK3 (l:=r.take 3) (by rw[List.length_take];omega) 3
   rwa[List.take_take,Nat.min_self] at this
  have eW:IntKind.i64.wrap (7+zB6 (r.take 3))=7+zB6 (r.take 3):=zC (by omega)
  rw[eW]
  refine fun _=>⟨fun h1=>⟨by omega,fun _=>⟨fun h2=>?_,fun h2=>⟨by omega,by omega,fun h3=>?_,fun h3 _=>⟨fun h4=>?_,fun h4=>?_⟩⟩⟩⟩,fun h1=>?_⟩
  ·have hF:zCB k r=([],0,14):=by
    obtain⟨k,rfl⟩:∃j,k=j+1:=⟨k - 1,by omega⟩
    exact zST (fun e=>by rw[e] at hd;simp at hd;omega) (by omega)
   rw[g4,hF];simp
  ·obtain⟨k,rfl⟩:∃j,k=j+1:=⟨k - 1,by omega⟩
   rw[g4,zUy (by omega) h3];simp
  ·obtain⟨k,rfl⟩:∃j,k=j+1:=⟨k - 1,by omega⟩
   rw[g4,zSS (by omega) h3 (by omega)];simp
  ·obtain⟨k,rfl⟩:∃j,k=j+1:=⟨k - 1,by omega⟩
   have e2:(7+zB6 (r.take 3)).toNat - 7=(zB6 (r.take 3)).toNat:=by omega
   have h3':1≤zB6 (r.take 3)∧zB6 (r.take 3)≤65536:=by simpa[inB] using h3
   rw[e2]
   refine⟨by omega,by decide +kernel,by omega,by omega,by omega,by omega,by omega,fun h5=>?_,fun h5=>⟨by omega,fun _=>⟨⟨_,p+(7+(zB6 (r.take 3)).toNat),⟨rfl,by rw[zC (by omega)];omega⟩,by omega,by simp;omega,k,by omega,?_⟩,?_⟩⟩⟩
   ·rw[g4,zUx (by omega) h3 (by omega) h5];simp
   ·have e3:b.drop (p+(7+(zB6 (r.take 3)).toNat))=r.drop (7+(zB6 (r.take 3)).toNat):=by rw[←hr,List.drop_drop]
    rw[g4,zQV (by omega) h3 (by omega) h5,e3]
    simp only[List.append_assoc,List.singleton_append,Prod.mk.injEq,true_and,and_true]
    omega
   ·rw[zC (by omega)];omega
  ·have e0:r=[]:=List.eq_nil_of_length_eq_zero (by omega)
   rw[g4,e0,zFQ];simp
def zEt:zJ:=zAb
theorem zUo:zh Tryz.prog 159 zEt:=by
 refine zP [0,2,3,4,5,6,7,8] [.tmp 2,.tmp 3,.tmp 4] (zA (cs:=[]) zRa (zA (cs:=[]) zUn (zD (zB [])))) mixed Tryz.func159 rfl (by decide) rfl (by decide) rfl ?_
 intro ps hT hpre W hW
 simp only[zEt,TyA,Ty,Tys] at hT hpre
 simp only[zAb,TyA,Ty,Tys] at hT hpre
 obtain⟨_,_,rfl,⟨b,rfl,hb⟩,rfl⟩:=hT
 simp only[zE,zEW] at hpre
 refine hW.vc [(12,[],tkN [0,1,2,3,4,5,6,9,10,11,12,13,14] (alN [7,8,15] (tkN [16] .done)))] _ _ ?_
 simp[-List.getD_eq_getElem?_getD,zEt,zA3,zDr,zAb,zAb]
 refine hW.loopS _ _ _ [.sl 5 .dp (.list .str),.sl 6 .dp (.int .i64)] (fun ys=>∃(acc:List PV) (p:Nat),ys=[.list acc,.int .i64 p]∧p≤b.length∧acc.length≤p∧∃k:Nat,b.length≤p+k∧zBw b=(acc++(zCB k (b.drop p)).1,p+(zCB k (b.drop p)).2.1,(zCB k (b.drop p)).2.2)) (fun ys=>b.length - (nth ys 1).I.toNat) ?_ ?_
 ·simp[-List.getD_eq_getElem?_getD,zEt,zA3,zDr,zAb]
  exact⟨[],0,⟨rfl,rfl⟩,by omega,by simp,b.length,by omega,by simp[zBw]⟩
 ·rintro ys ⟨acc,p,rfl,g1,g2,k,g3,g4⟩
  refine hW.vc [(12,[],tkN [0,1,2,3,4,5,6,9,10,11,12,13,14] (alN [7,8,15] (tkN [16] .done)))] _ _ ?_
  simp[-List.getD_eq_getElem?_getD,zEt,zA3,zDr,zAb,zAb]
  have a0:IntKind.i64.wrap ((b.length:Int) - p)=((b.length - p:Nat):Int):=by rw[zC (by omega)];omega
  have a3:IntKind.i64.wrap ((p:Int)+3)=((p+3:Nat):Int):=by rw[zC (by omega)];omega
  have a7:IntKind.i64.wrap ((p:Int)+7)=((p+7:Nat):Int):=by rw[zC (by omega)];omega
  rw[a0,a3,a7]
  have b3:p+3 - p=3:=by omega
  have b4:p+7 - (p+3)=4:=by omega
  have hd:(b.drop p).length=b.length - p:=List.length_drop
  have d3:b.drop (p+3)=(b.drop p).drop 3:=by rw[List.drop_drop]
  have d7:b.drop (p+7)=(b.drop p).drop 7:=by rw[List.drop_drop]
  simp only[Int.toNat_natCast,b3,b4,d3,d7,zCW,zCo]
  generalize hr:b.drop p=r at *
  have hn:0≤zB6 (r.take 3)∧zB6 (r.take 3) < 72057594037927936:=by
   have:=zK3 (l:=r.take 3) (by rw[List.length_take];omega) 3
   rwa[List.take_take,Nat.min_self] at this
  refine fun _=>⟨fun h1 _=>⟨fun h2=>?_,fun h2=>⟨⟨by omega,by omega⟩,by omega,fun h3=>?_,fun h3 h3' _=>?_⟩⟩,fun h1=>?_⟩
  ·have hF:zCB k r=([],0,14):=by
    obtain⟨k,rfl⟩:∃j,k=j+1:=⟨k - 1,by omega⟩
    exact zST (fun e=>by rw[e] at hd;simp at hd;omega) (by omega)
   rw[g4,hF];simp
  ·obtain⟨k,rfl⟩:∃j,k=j+1:=⟨k - 1,by omega⟩
   have h3:inB (zB6 (r.take 3)) 1 65536=false:=by
    simp[inB];omega
   rw[g4,zUy (by omega) h3];simp
  ·have hb:inB (zB6 (r.take 3)) 1 65536=true:=by simp[inB];omega
   have a8:IntKind.i64.wrap (((b.length - p:Nat):Int) - 7)=((b.length - p:Nat):Int) - 7:=zC (by omega)
   have a9:IntKind.i64.wrap (((p+7:Nat):Int)+zB6 (r.take 3))=((p+7:Nat):Int)+zB6 (r.take 3):=zC (by omega)
   have a10:IntKind.i64.wrap ((p:Int)+IntKind.i64.wrap (7+zB6 (r.take 3)))=((p+(7+(zB6 (r.take 3)).toNat):Nat):Int):=by rw[zC (n:=7+zB6 (r.take 3)) (by omega),zC (by omega)];omega
   have e2:(((p+7:Nat):Int)+zB6 (r.take 3)).toNat - (p+7)=(zB6 (r.take 3)).toNat:=by omega
   rw[a8,a9,a10,e2]
   obtain⟨k,rfl⟩:∃j,k=j+1:=⟨k - 1,by omega⟩
   refine⟨fun h4=>?_,fun h4=>?_⟩
   ·rw[g4,zSS (by omega) hb (by omega)];simp
   ·refine⟨⟨by omega,by omega,by omega⟩,by decide +kernel,⟨by omega,by omega⟩,by omega,⟨by omega,by omega,by omega⟩,?_,by omega,fun h5=>?_,fun h5=>⟨by omega,fun _=>⟨⟨_,p+(7+(zB6 (r.take 3)).toNat),⟨rfl,rfl⟩,by omega,by simp;omega,k,by omega,?_⟩,by omega⟩⟩⟩
    ·rw[List.length_append,List.length_take,List.length_take,List.length_drop];omega
    ·rw[g4,zUx (by omega) hb (by omega) (fun e=>h5 e.symm)];simp
    ·have e3:b.drop (p+(7+(zB6 (r.take 3)).toNat))=r.drop (7+(zB6 (r.take 3)).toNat):=by rw[←hr,List.drop_drop]
     rw[g4,zQV (by omega) hb (by omega) h5.symm,e3]
     simp only[List.append_assoc,List.singleton_append,Prod.mk.injEq,true_and,and_true]
     omega
  ·have e0:r=[]:=List.eq_nil_of_length_eq_zero (by omega)
   rw[g4,e0,zFQ];simp
end
section
variable [zS]
structure Src where
 p:Int
 q:Int
@[simp] theorem Src.eta(s:Src):(⟨s.p,s.q⟩:Src)=s:=rfl
def z9(p q k:Int):Prop:=0≤p∧p+k≤1000000000000000000∧0≤q∧q < 2147483648
end
section
variable [zS]
@[simp] def srcOut(s:Src):PV:=.agg [.list [],.int .i64 s.p,.int .i64 s.q]
structure MD where
 k:Int
 f:Int
 t:Int
 i:Int
 c:Int
 o:Bool
 s:Src
structure MdF (n:ND) (d:MD) (k:Int):Prop where
 k1:1≤d.k
 k4:d.k≤4
 f0:0≤d.f
 f1:d.f < n.nodes
 fn:d.f≠n.id
 t1:1≤d.t
 tn:d.t≤n.term+1
 i0:0≤d.i
 i6:d.i≤60
 c0:0≤d.c
 c3:d.c≤3
 s:z9 d.s.p d.s.q k
end
end Go.Proofs.YthogljppoiekaaaGreat
