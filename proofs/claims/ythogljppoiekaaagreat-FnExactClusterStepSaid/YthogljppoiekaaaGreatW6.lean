/-
  Part 6: contracts of functions, and the laws by which they are proved.
  Conditions: none.
-/
import Derived.Test.YthogljppoiekaaaGreatW5
set_option linter.unusedVariables false
set_option linter.unusedSimpArgs false
set_option linter.unusedSectionVars false
set_option maxRecDepth 100000
namespace Go.Proofs.YthogljppoiekaaaGreat
section
variable [zS]
def inB(n lo hi:Int):Bool:=decide (n ≥ lo)&&decide (n≤hi)
def zT:zJ:=⟨[(.rd,.int .i64),(.rd,.int .i64),(.rd,.int .i64)],[.bool],true,fun _=>True,fun ps=>[.bool (inB (nth ps 0).I (nth ps 1).I (nth ps 2).I)],fun _=>[]⟩
theorem zA9:zh Tryz.prog 49 zT:=by
 refine zP [0,1,2,6] [.tmp 6] (zD (zB [])) mixed Tryz.func49 rfl (by decide) rfl (by decide) rfl ?_
 intro ps hT hpre W hW
 simp only[zT,TyA,Ty,Tys] at hT hpre
 obtain⟨_,_,rfl,⟨a,rfl,ha⟩,_,_,rfl,⟨b,rfl,hb⟩,_,_,rfl,⟨c,rfl,hc⟩,rfl⟩:=hT
 refine hW.vc [] _ _ ?_
 simp[-List.getD_eq_getElem?_getD,zT,inB]
 try rfl
def zCC:zJ:=zT
theorem zEj:zh Tryz.prog 77 zCC:=by
 refine zP [0,1,2,6] [.tmp 6] (zD (zB [])) mixed Tryz.func77 rfl (by decide) rfl (by decide) rfl ?_
 intro ps hT hpre W hW
 simp only[zCC,TyA,Ty,Tys] at hT hpre
 simp only[zT,TyA,Ty] at hT
 obtain⟨_,_,rfl,⟨a,rfl,ha⟩,_,_,rfl,⟨b,rfl,hb⟩,_,_,rfl,⟨c,rfl,hc⟩,rfl⟩:=hT
 refine hW.vc [] _ _ ?_
 simp[-List.getD_eq_getElem?_getD,zCC,zT,zT,inB]
 try rfl
end
section
variable [zS]
def eqL(f:PV→PV→Bool):List PV→List PV→Bool
 | [],[]=>true
 | a :: l,b :: m=>f a b&&eqL f l m
 | _,_=>false
theorem zAX{f:PV→PV→Bool}:∀{a b:List PV},a.length≠b.length→eqL f a b=false
 | [],[],h=>absurd rfl h
 | [],_ :: _,_=>rfl
 | _ :: _,[],_=>rfl
 | x :: a,y :: b,h=>by simp only[eqL,zAX (a:=a) (b:=b) (by simpa using h),Bool.and_false]
def zM:zJ:=⟨[(.rd,.list .str),(.rd,.list .str)],[.bool],true,fun _=>True,fun ps=>[.bool (eqL (fun x y=>x.S == y.S) (nth ps 0).L (nth ps 1).L)],fun _=>[]⟩
end
section
variable [zS]
theorem zVM{n:Int}(h:0≤n∧n≤255):IntKind.u8.wrap n=n:=by
 simp[IntKind.wrap,IntKind.signed,IntKind.bits];omega
theorem zEc{l:List PV}{i:Nat}{x:PV}(h:i < l.length):nth (l.set i x) i=x:=by simp[nth,h]
end
section
variable [zS]
def zB6(l:List UInt8):Int:=l.foldl (fun n b=>n*256+b.toNat) 0
theorem zNN(l:List UInt8)(b:UInt8):zB6 (l++[b])=zB6 l*256+b.toNat:=by simp[zB6]
theorem zTF{l:List UInt8}{i:Nat}(h:i < l.length):zB6 (l.take (i+1))=zB6 (l.take i)*256+(l.getD i 0).toNat:=by
 rw[List.take_succ_eq_append_getElem h,zNN];simp[h]
theorem zLb:∀(n:Nat) (l:List UInt8),l.length=n→0≤zB6 l∧zB6 l < 256 ^ n
 | 0,l,h=>by have:=List.eq_nil_of_length_eq_zero h;subst this;simp[zB6]
 | n+1,l,h=>by
  have h0:l≠[]:=by intro e;subst e;simp at h
  have h1:=List.dropLast_concat_getLast h0
  have h2:=zLb n l.dropLast (by simp[h])
  have h3:=(l.getLast h0).toNat_lt
  rw[←h1,zNN,Int.pow_succ]
  omega
theorem zK3{l:List UInt8}(h:l.length≤7)(i:Nat):0≤zB6 (l.take i)∧zB6 (l.take i) < 72057594037927936:=by
 have h1:=zLb (l.take i).length (l.take i) rfl
 refine⟨h1.1,Int.lt_of_lt_of_le h1.2 ?_⟩
 have h2:(l.take i).length≤7:=by simp;omega
 have h3:(256:Int) ^ (l.take i).length≤256 ^ 7:=by
  have:=Nat.pow_le_pow_right (n:=256) (by decide) h2
  exact_mod_cast this
 exact Int.le_trans h3 (by decide)
theorem zVf{l:List UInt8}(h:l.length≤7){i:Nat}(hi:i < l.length):0≤zB6 (l.take i)∧zB6 (l.take i) < 281474976710656:=by
 have h1:=zLb (l.take i).length (l.take i) rfl
 refine⟨h1.1,Int.lt_of_lt_of_le h1.2 ?_⟩
 have h2:(l.take i).length≤6:=by simp;omega
 have h3:(256:Int) ^ (l.take i).length≤256 ^ 6:=by
  have:=Nat.pow_le_pow_right (n:=256) (by decide) h2
  exact_mod_cast this
 exact Int.le_trans h3 (by decide)
theorem zbP{m:Int}{b:UInt8}(h0:0≤m)(h1:m < 281474976710656):orI .i64 (m*256) b.toNat=m*256+b.toNat:=by
 obtain⟨k,rfl⟩:=Int.eq_ofNat_of_zero_le h0
 have hb:=b.toNat_lt
 unfold orI
 have hw:IntKind.i64.bits=64:=rfl
 rw[hw]
 have e1:(BitVec.ofInt 64 ((k:Int)*256)).toNat=k*256:=by
  rw[show(k:Int)*256=((k*256:Nat):Int) by simp,BitVec.ofInt_natCast,BitVec.toNat_ofNat]
  exact Nat.mod_eq_of_lt (by omega)
 have e2:(BitVec.ofInt 64 (b.toNat:Int)).toNat=b.toNat:=by
  rw[BitVec.ofInt_natCast,BitVec.toNat_ofNat]
  exact Nat.mod_eq_of_lt (by omega)
 rw[BitVec.toNat_or,e1,e2]
 have e3:k*256 ||| b.toNat=k*256+b.toNat:=by
  have:=Nat.shiftLeft_add_eq_or_of_lt (i:=8) (b:=b.toNat) (by omega) k
  rw[Nat.shiftLeft_eq] at this
  exact this.symm
 rw[e3]
 rw[zC (by omega)]
 simp
theorem zQe(b:UInt8):IntKind.i64.wrap (b.toNat:Int)=b.toNat:=zC (by have:=b.toNat_lt;omega)
def zA3:zJ:=⟨[(.rd,.str)],[.int .i64],true,fun ps=>(nth ps 0).S.length≤7,fun ps=>[.int .i64 (zB6 (nth ps 0).S)],fun _=>[]⟩
theorem zUn:zh Tryz.prog 199 zA3:=by
 refine zP [0,2,3,4] [.tmp 2] (zD (zB [])) mixed Tryz.func199 rfl (by decide) rfl (by decide) rfl ?_
 intro ps hT hpre W hW
 simp only[zA3,TyA,Ty,Tys] at hT hpre
 obtain⟨_,_,rfl,⟨l,rfl,hl⟩,rfl⟩:=hT
 simp only[zE,zEW] at hpre
 refine hW.vc [] _ _ ?_
 simp[-List.getD_eq_getElem?_getD,zA3]
 refine hW.loopS _ _ _ [.sl 3 .dp (.int .i64),.sl 4 .dp (.int .i64)] (fun ys=>∃i:Nat,ys=[.int .i64 (zB6 (l.take i)),.int .i64 i]∧i≤l.length) (fun ys=>l.length - (nth ys 1).I.toNat) ?_ ?_
 ·simp[-List.getD_eq_getElem?_getD,zA3]
  exact⟨0,⟨by simp[zB6],rfl⟩,by simp⟩
 ·rintro ys ⟨i,rfl,h4⟩
  refine hW.vc [] _ _ ?_
  simp[-List.getD_eq_getElem?_getD,zA3]
  refine fun _=>⟨fun h6=>⟨h6,?_⟩,fun h6=>by rw[List.take_of_length_le h6]⟩
  have h7:=zK3 hpre i
  have h8:=zVf hpre h6
  have h9:=(l.getD i 0).toNat_lt
  rw[zQe,zC (n:=zB6 (l.take i)*256) (by omega),zC (by omega),zC (by omega)]
  exact⟨⟨i+1,⟨(zTF h6).symm,by omega⟩,by omega⟩,by omega⟩
def zB5:zJ:=zA3
theorem zMg:zh Tryz.prog 171 zB5:=by
 refine zP [0,2,3,4,6,7] [.tmp 2] (zD (zB [])) mixed Tryz.func171 rfl (by decide) rfl (by decide) rfl ?_
 intro ps hT hpre W hW
 simp only[zB5,TyA,Ty,Tys] at hT hpre
 simp only[zA3,TyA,Ty] at hT hpre
 obtain⟨_,_,rfl,⟨l,rfl,hl⟩,rfl⟩:=hT
 simp only[zE,zEW] at hpre
 refine hW.vc [] _ _ ?_
 simp[-List.getD_eq_getElem?_getD,zB5,zA3,zA3]
 intro h0
 refine hW.loopS _ _ _ [.sl 3 .dp (.int .i64),.sl 7 .dp (.int .i64)] (fun ys=>∃i:Nat,ys=[.int .i64 (zB6 (l.take i)),.int .i64 i]∧i≤l.length) (fun ys=>l.length - (nth ys 1).I.toNat) ?_ ?_
 ·simp[-List.getD_eq_getElem?_getD,zB5,zA3]
  exact⟨0,⟨by simp[zB6],rfl⟩,by simp⟩
 ·rintro ys ⟨i,rfl,h4⟩
  refine hW.vc [] _ _ ?_
  simp[-List.getD_eq_getElem?_getD,zB5,zA3,zA3]
  refine⟨fun h6=>⟨h6,?_⟩,fun h6=>by rw[List.take_of_length_le h6]⟩
  have h7:=zK3 hpre i
  have h8:=zVf hpre h6
  have h9:=(l.getD i 0).toNat_lt
  rw[zQe,show shlI IntKind.i64 (zB6 (List.take i l)) 8=IntKind.i64.wrap (zB6 (l.take i)*256) from rfl,zC (n:=zB6 (l.take i)*256) (by omega),zC (by omega),zbP h8.1 h8.2]
  exact⟨⟨i+1,⟨(zTF h6).symm,by omega⟩,by omega⟩,by omega⟩
end
section
variable [zS]
def zBA(p:PV→Bool)(i:Nat):List PV→Int
 | []=>-1
 | e :: es=>if p e then (i:Int) else zBA p (i+1) es
theorem zDA(p:PV→Bool):∀(es:List PV) (i:Nat),decide (0≤zBA p i es)=es.any p
 | [],i=>by simp[zBA]
 | e :: es,i=>by
  simp only[zBA,List.any_cons]
  by_cases h:p e=true
  ·simp[h]
  ·simp[h,zDA p es (i+1)]
end
section
variable [zS]
theorem y9{f:PV→PV→Bool}(hf:∀x,f x x=true):∀{es:List PV},eqL f es es=true
 | []=>rfl
 | e :: es=>by simp[eqL,hf,y9 hf (es:=es)]
end
section
variable [zS]
def zEP(a b:List PV):Bool:=(nth a 0).I == (nth b 0).I&&(nth a 1).S == (nth b 1).S
def ze(a b:PV):Bool:=zEP a.A b.A
theorem zBj(a:PV):ze a a=true:=by simp[ze,zEP]
def leB(a b:Int):Bool:=decide (a≤b)
end
section
variable [zS]
structure VW where
 n:Int
 f:Int
 u:Bool
 w:Int
 h:Int
 r:List PV
def VW.pv(v:VW):PV:=.agg [.int .i64 v.n,.int .i64 v.f,.bool v.u,.int .i64 v.w,.int .i64 v.h,.list v.r]
def VW.no:VW:=⟨0,0,false,0,0,[]⟩
end
section
variable [zS]
structure MR where
 n:Int
 w:Int
 h:Int
 r:List PV
def MR.pv(m:MR):PV:=.agg [.int .i64 m.n,.int .i64 m.w,.int .i64 m.h,.list m.r]
def MR.no:MR:=⟨0,0,0,[]⟩
end
section
variable [zS]
def zP3(n:Int):Bool:=decide (n > 65536)
def zJ2:zJ:=⟨[(.rd,.int .i64)],[.bool],true,fun _=>True,fun ps=>[.bool (zP3 (nth ps 0).I)],fun _=>[]⟩
theorem zYB:zh Tryz.prog 228 zJ2:=by
 refine zP [0,2] [.tmp 2] (zD (zB [])) mixed Tryz.func228 rfl (by decide) rfl (by decide) rfl ?_
 intro ps hT hpre W hW
 simp only[zJ2,TyA,Ty,Tys] at hT hpre
 obtain⟨_,_,rfl,⟨n,rfl,hn⟩,rfl⟩:=hT
 refine hW.vc [] _ _ ?_
 simp[-List.getD_eq_getElem?_getD,zJ2]
 rfl
def zCV:zJ:=⟨[(.rd,.list (.int .i64)),(.rd,.fn 228 [])],[.int .i64],true,fun ps=>True,fun ps=>[.int .i64 (zBA (fun e=>zP3 e.I) 0 (nth ps 0).L)],fun _=>[]⟩
theorem zMh:zh Tryz.prog 238 zCV:=by
 refine zP [0,1,4,5,7,8] [.tmp 4] (zA (cs:=[]) zYB (zD (zB []))) mixed Tryz.func238 rfl (by decide) rfl (by decide) rfl ?_
 intro ps hT hpre W hW
 simp only[zCV,TyA,Ty,Tys] at hT hpre
 obtain⟨_,_,rfl,⟨es,rfl,he,hes⟩,_,_,rfl,⟨_,rfl,rfl⟩,rfl⟩:=hT
 refine hW.vc [] _ _ ?_
 simp[-List.getD_eq_getElem?_getD,zCV,zJ2]
 intro h1
 refine hW.loopS _ _ _ [.sl 8 .dp (.int .i64)] (fun ys=>∃i:Nat,ys=[.int .i64 i]∧i≤es.length∧zBA (fun e=>zP3 e.I) 0 es=zBA (fun e=>zP3 e.I) i (es.drop i)) (fun ys=>es.length - (nth ys 0).I.toNat) ?_ ?_
 ·simp[-List.getD_eq_getElem?_getD,zCV,zJ2]
  exact⟨0,rfl,by simp,by simp⟩
 ·rintro ys ⟨i,rfl,h2,h3⟩
  refine hW.vc [] _ _ ?_
  simp[-List.getD_eq_getElem?_getD,zCV,zJ2]
  refine⟨fun h4=>⟨h4,fun _=>⟨fun h5=>?_,fun h5=>?_⟩⟩,fun h4=>?_⟩
  ·rw[h3,zG h4];simp[zBA,h5]
  ·rw[zC (by omega)]
   refine⟨⟨i+1,by omega,by omega,?_⟩,by omega⟩
   rw[h3,zG h4];simp[zBA,h5]
  ·rw[h3,List.drop_eq_nil_of_le h4];rfl
def zDD:zJ:=⟨[(.rd,.list (.int .i64)),(.rd,.fn 228 [])],[.bool],true,fun ps=>True,fun ps=>[.bool ((nth ps 0).L.any (fun e=>zP3 e.I))],fun _=>[]⟩
theorem zKk:zh Tryz.prog 227 zDD:=by
 refine zP [0,1,4] [.tmp 4] (zA (cs:=[228]) zMh (zD (zB []))) mixed Tryz.func227 rfl (by decide) rfl (by decide) rfl ?_
 intro ps hT hpre W hW
 simp only[zDD,TyA,Ty,Tys] at hT hpre
 obtain⟨_,_,rfl,⟨es,rfl,he,hes⟩,_,_,rfl,⟨_,rfl,rfl⟩,rfl⟩:=hT
 refine hW.vc [] _ _ ?_
 simp[-List.getD_eq_getElem?_getD,zDD,zCV]
 exact zDA (fun e=>zP3 e.I) es 0
def zPF:zJ:=⟨[(.rd,.list (.int .i64))],[.bool],true,fun _=>True,fun ps=>[.bool ((nth ps 0).L.any (fun e=>zP3 e.I))],fun _=>[]⟩
theorem zZf:zh Tryz.prog 193 zPF:=by
 refine zP [0,2] [.tmp 2] (zA (cs:=[228]) zKk (zD (zB []))) mixed Tryz.func193 rfl (by decide) rfl (by decide) rfl ?_
 intro ps hT hpre W hW
 simp only[zPF,TyA,Ty,Tys] at hT hpre
 obtain⟨_,_,rfl,⟨es,rfl,hes,tes⟩,rfl⟩:=hT
 refine hW.vc [] _ _ ?_
 simp[-List.getD_eq_getElem?_getD,zPF,zDD]
end
end Go.Proofs.YthogljppoiekaaaGreat
