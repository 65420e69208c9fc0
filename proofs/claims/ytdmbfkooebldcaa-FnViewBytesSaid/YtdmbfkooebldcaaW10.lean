/-
  Part 10: contracts of functions, and the laws by which they are proved.
  Conditions: none.
-/
import Derived.Test.YtdmbfkooebldcaaW9
set_option linter.unusedVariables false
set_option linter.unusedSimpArgs false
set_option linter.unusedSectionVars false
set_option maxRecDepth 100000
namespace Go.Proofs.Ytdmbfkooebldcaa
section
variable [ze]
theorem zGl(x:UInt8)(n:Int):yF (n*256+x.toNat)=x:=by
 have h:=x.toNat_lt
 have e:(n*256+(x.toNat:Int)) % 256=x.toNat:=by omega
 simp[yF,e]
theorem zQE(n:Int)(k:Nat):nB n (k+1)=nB (n / 256) k++[yF n]:=by
 simp only[nB,List.range_succ,List.map_append,List.map_cons,List.map_nil]
 congr 1
 ·refine List.map_congr_left fun i hi=>?_
  have h:i < k:=List.mem_range.1 hi
  have e:k+1 - 1 - i=(k - 1 - i)+1:=by omega
  rw[e,Int.pow_succ,Int.mul_comm,←Int.ediv_ediv_of_nonneg (by omega)]
 ·simp
theorem zHo:∀{k:Nat} {l:List UInt8},l.length=k→nB (zAp l) k=l
 | 0,l,h=>by have:=List.eq_nil_of_length_eq_zero h;subst this;rfl
 | k+1,l,h=>by
  have h0:l≠[]:=by intro e;subst e;simp at h
  have h1:=List.dropLast_concat_getLast h0
  rw[←h1,zGD,zQE,zGl]
  have h2:=(l.getLast h0).toNat_lt
  have e:(zAp l.dropLast*256+((l.getLast h0).toNat:Int)) / 256=zAp l.dropLast:=by omega
  rw[e,zHo (by simp[h])]
def zGn:Nat→List UInt8→Option (List PV × List UInt8)
 | 0,t=>some ([],t)
 | n+1,t=>if t.length < 2∨20000 < zAp (t.take 2)∨(t.length:Int) < 2+zAp (t.take 2) then none
  else (zGn n (t.drop (2+(zAp (t.take 2)).toNat))).map fun x=>(.str ((t.drop 2).take (zAp (t.take 2)).toNat) :: x.1,x.2)
def rdF(b:List UInt8):Option (List PV × List UInt8):=if b=[]∨60 < (b.getD 0 0).toNat then none else zGn (b.getD 0 0).toNat (b.drop 1)
def rdI(b:List UInt8):List PV × Bool:=if 65536 < b.length then ([],false) else match rdF b with | none=>([],false) | some (es,r)=>(es,r.isEmpty)
def rdS(b:List UInt8):List PV × Bool:=match rdF b with | none=>([],false) | some (es,r)=>if r=[] then (es,true) else ([],false)
theorem zKP:∀(n:Nat) (t:List UInt8) (es:List PV) (r:List UInt8),zGn n t=some (es,r)→es.length=n∧t=(es.flatMap fun e=>nB e.S.length 2++e.S)++r
 | 0,t,es,r,h=>by
  simp only[zGn,Option.some.injEq,Prod.mk.injEq] at h
  obtain⟨rfl,rfl⟩:=h
  simp
 | n+1,t,es,r,h=>by
  rw[zGn] at h
  split at h
  ·cases h
  ·rename_i h1
   simp only[Option.map_eq_some_iff,Prod.mk.injEq] at h
   obtain⟨⟨es',r'⟩,h2,rfl,rfl⟩:=h
   obtain⟨h3,h4⟩:=zKP n _ _ _ h2
   refine⟨by simp[h3],?_⟩
   have hn:0≤zAp (t.take 2):=(zDG _ _ rfl).1
   obtain⟨m,hm⟩:=Int.eq_ofNat_of_zero_le hn
   rw[hm] at h1 h4 ⊢
   rw[Int.toNat_natCast] at h4 ⊢
   have e0:((t.drop 2).take m).length=m:=by rw[List.length_take,List.length_drop];omega
   simp only[List.flatMap_cons,zCt,e0]
   have e1:nB m 2=t.take 2:=by
    rw[←hm];exact zHo (by rw[List.length_take];omega)
   rw[e1,List.append_assoc,List.append_assoc,←h4,←List.drop_drop]
   rw[List.take_append_drop,List.take_append_drop]
theorem zJS{b:List UInt8}{es:List PV}{r:List UInt8}(h:rdF b=some (es,r)):es.length≤60∧b=yS es++r:=by
 unfold rdF at h
 split at h
 ·cases h
 ·rename_i h1
  obtain⟨h2,h3⟩:=zKP _ _ _ _ h
  have h0:b≠[]:=fun e=>h1 (.inl e)
  refine⟨by rw[h2];have:=fun e=>h1 (.inr e);omega,?_⟩
  unfold yS
  rw[List.cons_append,←h3,h2]
  cases b with
  | nil=>exact absurd rfl h0
  | cons x b=>
   have:=zGl x 0
   rw[Int.zero_mul,Int.zero_add] at this
   simp[this]
theorem zP2(b:List UInt8):(rdI b).1.length≤60:=by
 unfold rdI
 split
 ·simp
 ·split
  ·simp
  ·rename_i es r h
   exact(zJS h).1
def yh:zP:=⟨[(.rd,.str)],[.list .str,.bool],true,fun _=>True,fun ps=>[.list (rdI (nth ps 0).S).1,.bool (rdI (nth ps 0).S).2],fun _=>[]⟩
theorem zIl:yQ Try.prog 45 yh:=by
 refine zf [0,2,3,4,5,6,22,23] [.tmp 2,.tmp 3] (zA (cs:=[]) zDu (zG (zD []))) zb Try.func45 rfl (by decide) rfl (by decide) rfl ?_
 intro ps hT hpre W hW
 simp only[yh,TyA,Ty,Tys] at hT hpre
 obtain⟨_,_,rfl,⟨b,rfl,hb⟩,rfl⟩:=hT
 refine hW.vc [] _ _ ?_
 simp[-List.getD_eq_getElem?_getD,yh,yB,zn,zn]
 have hb8:=(b.getD 0 0).toNat_lt
 refine⟨fun h=>⟨h,List.length_pos_iff.2 h⟩,fun _=>⟨fun h=>?_,fun h1 h2 h3=>⟨by have:=List.length_pos_iff.2 h1;omega,List.length_pos_iff.2 h1,?_⟩⟩⟩
 ·by_cases h65:65536 < b.length
  ·simp[rdI,h65]
  ·have hF:rdF b=none:=if_pos (by rcases h with (h | h) | h<;>first | exact .inl h | (right;omega))
   simp[rdI,hF]
 have hF:rdF b=zGn (b.getD 0 0).toNat (b.drop 1):=if_neg (by rintro(h | h);exact h1 h;omega)
 have hI:rdI b=match zGn (b.getD 0 0).toNat (b.drop 1) with | none=>([],false) | some (es,r)=>(es,r.isEmpty):=by
  rw[rdI,if_neg (by omega),hF]
 refine hW.loopS _ _ _ [.sl 4 .dp (.list .str),.sl 5 .dp .str,.sl 23 .dp (.int .u8)] (fun ys=>∃(acc:List PV) (rest:List UInt8) (i:Nat),ys=[.list acc,.str rest,.int .u8 i]∧i≤(b.getD 0 0).toNat∧acc.length=i∧rest.length≤65536∧zGn (b.getD 0 0).toNat (b.drop 1)=(zGn ((b.getD 0 0).toNat - i) rest).map fun x=>(acc++x.1,x.2)) (fun ys=>(b.getD 0 0).toNat - (nth ys 2).I.toNat) ?_ ?_
 ·simp[-List.getD_eq_getElem?_getD,yh,yB,zn,zn]
  refine⟨[],_,0,⟨rfl,rfl,rfl⟩,by omega,rfl,by simp;omega,?_⟩
  rw[List.take_of_length_le (by simp)]
  simp
 ·rintro ys ⟨acc,rest,i,rfl,g1,g2,g3,g4⟩
  refine hW.vc [] _ _ ?_
  simp[-List.getD_eq_getElem?_getD,yh,yB,zn,zn]
  have hn:0≤zAp (rest.take 2)∧zAp (rest.take 2) < 72057594037927936:=by
   have:=zEt (l:=rest.take 2) (by rw[List.length_take];omega) 2
   rwa[List.take_take,Nat.min_self] at this
  rw[zC (n:=2+zAp (List.take 2 rest)) (by omega)]
  have hw8:i < (b.getD 0 0).toNat→IntKind.u8.wrap ((i:Int)+1)=((i+1:Nat):Int):=fun h=>by rw[zLw (by omega)];omega
  refine⟨fun g5 g6=>?_,fun g5=>?_⟩
  ·have hstep:(b.getD 0 0).toNat - i=((b.getD 0 0).toNat - (i+1))+1:=by omega
   rw[hstep,zGn] at g4
   rw[hw8 g5]
   have bad:(rest.length < 2∨20000 < zAp (rest.take 2)∨(rest.length:Int) < 2+zAp (rest.take 2))→(rdI b).1=[]∧(rdI b).2=false:=fun h=>by
    rw[if_pos h] at g4;rw[hI,g4];simp
   refine⟨fun g7=>bad (.inl (by omega)),fun g7=>⟨by omega,by omega,fun _=>⟨fun g8=>bad (.inr g8),fun g8 g9=>⟨by omega,by omega,fun _=>⟨by omega,?_,by omega⟩⟩⟩⟩⟩
   have e1:(2+zAp (rest.take 2)).toNat=2+(zAp (rest.take 2)).toNat:=by omega
   rw[if_neg (by omega)] at g4
   refine⟨_,_,i+1,⟨rfl,rfl,rfl⟩,by omega,by simp[g2],by simp;omega,?_⟩
   have e2:List.take (rest.length - (2+(zAp (rest.take 2)).toNat)) (List.drop (2+(zAp (rest.take 2)).toNat) rest)=List.drop (2+(zAp (rest.take 2)).toNat) rest:=List.take_of_length_le (by simp)
   rw[e1,Nat.add_sub_cancel_left,e2]
   simpa[Option.map_map,Function.comp_def] using g4
  ·have:i=(b.getD 0 0).toNat:=by omega
   rw[this,Nat.sub_self,zGn] at g4
   rw[hI,g4];simp
def zBK:zP:=⟨[(.rd,.str)],[.list .str,.bool],true,fun ps=>(nth ps 0).S.length≤65536,fun ps=>[.list (rdS (nth ps 0).S).1,.bool (rdS (nth ps 0).S).2],fun _=>[]⟩
theorem zM2:yQ Try.prog 47 zBK:=by
 refine zf [0,2,3,4,5,6,7] [.tmp 2,.tmp 3] (zA (cs:=[]) zJi (zG (zD []))) zb Try.func47 rfl (by decide) rfl (by decide) rfl ?_
 intro ps hT hpre W hW
 simp only[zBK,TyA,Ty,Tys] at hT hpre
 obtain⟨_,_,rfl,⟨b,rfl,hb⟩,rfl⟩:=hT
 simp only[zF,zCt] at hpre
 refine hW.vc [] _ _ ?_
 simp[-List.getD_eq_getElem?_getD,zBK,zn]
 have hb8:=(b.getD 0 0).toNat_lt
 refine⟨fun h=>⟨h,List.length_pos_iff.2 h⟩,fun h=>?_,fun h1 h2=>⟨List.length_pos_iff.2 h1,?_⟩⟩
 ·have hF:rdF b=none:=if_pos (by rcases h with h | h<;>first | exact .inl h | (right;omega))
  simp[rdS,hF]
 have hF:rdF b=zGn (b.getD 0 0).toNat (b.drop 1):=if_neg (by rintro(h | h);exact h1 h;omega)
 have hI:rdS b=match zGn (b.getD 0 0).toNat (b.drop 1) with | none=>([],false) | some (es,r)=>if r=[] then (es,true) else ([],false):=by
  rw[rdS,hF]
 refine hW.loopS _ _ _ [.sl 4 .dp (.list .str),.sl 5 .dp (.int .i64),.sl 6 .dp (.int .i64)] (fun ys=>∃(acc:List PV) (at' i:Nat),ys=[.list acc,.int .i64 at',.int .i64 ((b.getD 0 0).toNat - i:Nat)]∧i≤(b.getD 0 0).toNat∧acc.length=i∧at'≤b.length∧zGn (b.getD 0 0).toNat (b.drop 1)=(zGn ((b.getD 0 0).toNat - i) (b.drop at')).map fun x=>(acc++x.1,x.2)) (fun ys=>(nth ys 2).I.toNat) ?_ ?_
 ·simp[-List.getD_eq_getElem?_getD,zBK,zn]
  refine⟨[],1,0,⟨rfl,rfl,by rw[zC (by omega),Nat.sub_zero]⟩,by omega,rfl,by have:=List.length_pos_iff.2 h1;omega,by simp⟩
 ·rintro ys ⟨acc,at',i,rfl,g1,g2,g3,g4⟩
  refine hW.vc [] _ _ ?_
  simp[-List.getD_eq_getElem?_getD,zBK,zn]
  have a1:IntKind.i64.wrap ((at':Int)+2)=(at'+2:Nat):=by rw[zC (by omega)];omega
  have a2:(((at'+2:Nat):Int)).toNat - at'=2:=by omega
  have hn:0≤zAp ((b.drop at').take 2)∧zAp ((b.drop at').take 2) < 72057594037927936:=by
   have:=zEt (l:=(b.drop at').take 2) (by rw[List.length_take];omega) 2
   rwa[List.take_take,Nat.min_self] at this
  have hd:(b.drop at').length=b.length - at':=List.length_drop
  have hd2:(b.drop at').drop 2=b.drop (at'+2):=by rw[List.drop_drop]
  rw[a1,a2]
  generalize hL:zAp ((b.drop at').take 2)=L at *
  obtain⟨m,rfl⟩:=Int.eq_ofNat_of_zero_le hn.1
  have a3:IntKind.i64.wrap (((at'+2:Nat):Int)+(m:Int))=(at'+2+m:Nat):=by rw[zC (by omega)];omega
  have a5:(((at'+2+m:Nat):Int)).toNat - (((at'+2:Nat):Int)).toNat=m:=by omega
  have a4:IntKind.i64.wrap ((at':Int)+IntKind.i64.wrap (2+(m:Int)))=(at'+(2+m):Nat):=by rw[zC (n:=2+(m:Int)) (by omega),zC (by omega)];omega
  rw[a3,a4,a5]
  refine⟨fun g5 _=>?_,fun g5 _=>?_⟩
  ·have hstep:(b.getD 0 0).toNat - i=((b.getD 0 0).toNat - (i+1))+1:=by omega
   rw[hstep,zGn,hL,hd,Int.toNat_natCast] at g4
   have bad:(b.length - at' < 2∨20000 < (m:Int)∨((b.length - at':Nat):Int) < 2+(m:Int))→(rdS b).1=[]∧(rdS b).2=false:=fun h=>by
    rw[if_pos h] at g4;rw[hI,g4];simp
   refine⟨fun g7=>bad (.inl (by omega)),fun g7=>⟨by omega,by omega,fun _=>⟨fun g8=>bad (.inr (by omega)),fun g8 g9=>⟨by omega,by omega,fun _=>⟨⟨_,_,i+1,⟨rfl,rfl,?_⟩,by omega,by simp[g2],by omega,?_⟩,?_⟩⟩⟩⟩⟩
   ·rw[zC (by omega)];omega
   ·rw[if_neg (by omega),List.drop_drop,List.drop_drop] at g4
    rw[Int.toNat_natCast]
    simpa[Option.map_map,Function.comp_def] using g4
   ·rw[zC (by omega)];omega
  ·have:i=(b.getD 0 0).toNat:=by omega
   rw[this,Nat.sub_self,zGn] at g4
   have hl:b.drop at'=[]↔b.length=at':=by rw[List.drop_eq_nil_iff];omega
   refine⟨fun g6=>?_,fun g6=>?_⟩
   ·have:¬b.drop at'=[]:=by rw[hl];omega
    rw[hI,g4];simp only[Option.map_some,this,if_false];simp
   ·have:b.drop at'=[]:=by rw[hl];omega
    rw[hI,g4];simp only[Option.map_some,this,if_true];simp
def zi:Nat→List UInt8→List PV
 | 0,_=>[]
 | n+1,t=>.int .i64 (zAp (t.take 3) - 1) :: zi n (t.drop 3)
theorem zCv:∀(n:Nat) (t:List UInt8),(zi n t).length=n
 | 0,_=>rfl
 | n+1,t=>by simp[zi,zCv n]
def zAH:zP:=⟨[(.rd,.str)],[.list (.int .i64)],true,fun ps=>(nth ps 0).S.length≤1048576,fun ps=>[.list (zi ((nth ps 0).S.length / 3) (nth ps 0).S)],fun _=>[]⟩
theorem zHv:yQ Try.prog 63 zAH:=by
 refine zf [0,2,3] [.tmp 2] (zA (cs:=[]) zDu (zG (zD []))) zb Try.func63 rfl (by decide) rfl (by decide) rfl ?_
 intro ps hT hpre W hW
 simp only[zAH,TyA,Ty,Tys] at hT hpre
 obtain⟨_,_,rfl,⟨b,rfl,hb⟩,rfl⟩:=hT
 simp only[zF,zCt] at hpre
 refine hW.vc [] _ _ ?_
 simp[-List.getD_eq_getElem?_getD,zAH,yB,zn,zn]
 refine hW.loopS _ _ _ [.sl 3 .dp (.list (.int .i64)),.sl 0 .dp .str] (fun ys=>∃(acc:List PV) (rest:List UInt8),ys=[.list acc,.str rest]∧acc.length+rest.length≤b.length∧zi (b.length / 3) b=acc++zi (rest.length / 3) rest) (fun ys=>(nth ys 1).S.length) ?_ ?_
 ·simp[-List.getD_eq_getElem?_getD,zAH,yB,zn,zn]
  exact⟨[],b,⟨rfl,rfl⟩,by simp,rfl⟩
 ·rintro ys ⟨acc,rest,rfl,g1,g2⟩
  refine hW.vc [] _ _ ?_
  simp[-List.getD_eq_getElem?_getD,zAH,yB,zn,zn]
  have hn:0≤zAp (rest.take 3)∧zAp (rest.take 3) < 72057594037927936:=by
   have:=zEt (l:=rest.take 3) (by rw[List.length_take];omega) 3
   rwa[List.take_take,Nat.min_self] at this
  refine fun _=>⟨fun g3=>⟨by omega,by omega,by omega,fun _=>⟨by omega,⟨_,_,⟨rfl,rfl⟩,by simp;omega,?_⟩,by omega⟩⟩,fun g3=>?_⟩
  ·have e2:List.take (rest.length - 3) (List.drop 3 rest)=List.drop 3 rest:=List.take_of_length_le (by simp)
   have e3:rest.length / 3=(rest.drop 3).length / 3+1:=by rw[List.length_drop];omega
   rw[e2,g2,e3,zi,zC (by omega)]
   simp
  ·have e3:rest.length / 3=0:=by omega
   rw[g2,e3,zi,List.append_nil]
def zNi(b:List UInt8)(n:Nat):List PV × Bool:=if b.length=3*n then (zi n b,true) else ([],false)
def zAG:zP:=⟨[(.rd,.str),(.rd,.int .i64)],[.list (.int .i64),.bool],true,fun ps=>0≤(nth ps 1).I∧(nth ps 1).I≤1000,fun ps=>[.list (zNi (nth ps 0).S (nth ps 1).I.toNat).1,.bool (zNi (nth ps 0).S (nth ps 1).I.toNat).2],fun _=>[]⟩
theorem zHt:yQ Try.prog 46 zAG:=by
 refine zf [0,1,4,5] [.tmp 4,.tmp 5] (zA (cs:=[]) zHv (zG (zD []))) zb Try.func46 rfl (by decide) rfl (by decide) rfl ?_
 intro ps hT hpre W hW
 simp only[zAG,TyA,Ty,Tys] at hT hpre
 obtain⟨_,_,rfl,⟨b,rfl,hb⟩,_,_,rfl,⟨k,rfl,hk⟩,rfl⟩:=hT
 simp only[zF,zK,zAS] at hpre
 refine hW.vc [] _ _ ?_
 simp[-List.getD_eq_getElem?_getD,zAG,zAH]
 rw[zC (by omega)]
 refine fun _=>⟨fun h=>?_,fun h=>?_⟩
 ·rw[zNi,if_neg (by omega)];simp
 ·have e:b.length / 3=k.toNat:=by omega
  rw[zNi,if_pos (by omega),e]
  exact⟨by omega,rfl,rfl⟩
def zKW(b:List UInt8):List PV × Bool:=if b.length % 3=0 then (zi (b.length / 3) b,true) else ([],false)
def yD:zP:=⟨[(.rd,.str)],[.list (.int .i64),.bool],true,fun ps=>(nth ps 0).S.length≤1048576,fun ps=>[.list (zKW (nth ps 0).S).1,.bool (zKW (nth ps 0).S).2],fun _=>[]⟩
theorem zFN:yQ Try.prog 48 yD:=by
 refine zf [0,2,3,4,5] [.tmp 2,.tmp 3] (zA (cs:=[]) zJi (zG (zD []))) zb Try.func48 rfl (by decide) rfl (by decide) rfl ?_
 intro ps hT hpre W hW
 simp only[yD,TyA,Ty,Tys] at hT hpre
 obtain⟨_,_,rfl,⟨b,rfl,hb⟩,rfl⟩:=hT
 simp only[zF,zCt] at hpre
 refine hW.vc [] _ _ ?_
 simp[-List.getD_eq_getElem?_getD,yD,zn]
 have e1:((b.length:Int)).tmod 3=((b.length % 3:Nat):Int):=rfl
 rw[e1]
 refine fun _=>⟨fun h=>by rw[zKW,if_neg (by omega)];simp,fun h=>?_⟩
 refine hW.loopS _ _ _ [.sl 4 .dp (.list (.int .i64)),.sl 5 .dp (.int .i64)] (fun ys=>∃(acc:List PV) (i:Nat),ys=[.list acc,.int .i64 (3*i:Nat)]∧3*i≤b.length∧acc.length=i∧zi (b.length / 3) b=acc++zi (b.length / 3 - i) (b.drop (3*i))) (fun ys=>b.length - (nth ys 1).I.toNat) ?_ ?_
 ·simp[-List.getD_eq_getElem?_getD,yD,zn]
  exact⟨[],0,⟨rfl,rfl⟩,by simp,rfl,by simp⟩
 ·rintro ys ⟨acc,i,rfl,g1,g2,g3⟩
  refine hW.vc [] _ _ ?_
  simp[-List.getD_eq_getElem?_getD,yD,zn]
  have a1:IntKind.i64.wrap (3*(i:Int)+3)=(3*i+3:Nat):=by rw[zC (by omega)];omega
  have a2:(((3*i+3:Nat):Int)).toNat - (3*(i:Int)).toNat=3:=by omega
  have a3:(3*(i:Int)).toNat=3*i:=by omega
  rw[a1,a2,a3]
  have hn:0≤zAp ((b.drop (3*i)).take 3)∧zAp ((b.drop (3*i)).take 3) < 72057594037927936:=by
   have:=zEt (l:=(b.drop (3*i)).take 3) (by rw[List.length_take];omega) 3
   rwa[List.take_take,Nat.min_self] at this
  refine fun _=>⟨fun g4=>⟨by omega,by omega,by omega,fun _=>⟨⟨_,i+1,⟨rfl,by omega⟩,by omega,by simp[g2],?_⟩,by omega⟩⟩,fun g4=>?_⟩
  ·have e3:b.length / 3 - i=(b.length / 3 - (i+1))+1:=by omega
   rw[g3,e3,zi,zC (by omega),List.drop_drop]
   simp[Nat.mul_add]
  ·have e3:b.length / 3 - i=0:=by omega
   rw[e3,zi,List.append_nil] at g3
   rw[zKW,if_pos (by omega),g3]
   exact⟨rfl,rfl⟩
def zDn(e:PV):PV:=.agg [.int .i64 ((e.S.getD 0 0).toNat:Int),.str (e.S.drop 1)]
def zP1:List PV→Option (VW × Int)
 | []=>none
 | e :: es=>if e.S.length=15∧(es.all fun e=>!e.S.isEmpty)=true then
   some (⟨(nth (zi 5 e.S) 0).I,(nth (zi 5 e.S) 1).I,(nth (zi 5 e.S) 2).I == 1,(nth (zi 5 e.S) 3).I,(nth (zi 5 e.S) 4).I,es.map zDn⟩,(nth (zi 5 e.S) 2).I) else none
def rvI(b:List UInt8):VW × Bool:=if (rdI b).2=true then match zP1 (rdI b).1 with
 | some (v,_)=>if zBd v.ls'=true∧zDW v=b then (v,true) else (VW.no,false)
 | none=>(VW.no,false) else (VW.no,false)
theorem zN2{b:List UInt8}(h:(rdI b).2=false∨(rdI b).1=[]):rvI b=(VW.no,false):=by
 unfold rvI
 split
 ·rename_i h1
  rcases h with h | h
  ·rw[h] at h1;cases h1
  ·rw[h];rfl
 ·rfl
theorem zN1{b:List UInt8}{e:PV}{es:List PV}(h:(rdI b).1=e :: es)(h2:e.S.length≠15∨(es.all fun e=>!e.S.isEmpty)=false):rvI b=(VW.no,false):=by
 unfold rvI
 split
 ·rw[h,zP1,if_neg (by rintro⟨h3,h4⟩;rcases h2 with h2 | h2;exact h2 h3;rw[h2] at h4;cases h4)]
 ·rfl
theorem zSU{s:List UInt8}(h:(zNi s 5).2=false):s.length≠15:=by
 intro e;rw[zNi,if_pos e] at h;cases h
theorem zST{s:List UInt8}(h:(zNi s 5).2=true):s.length=15∧(zNi s 5).1=zi 5 s:=by
 by_cases e:s.length=3*5
 ·exact⟨e,by rw[zNi,if_pos e]⟩
 ·rw[zNi,if_neg e] at h;cases h
theorem zSg{b:List UInt8}{e:PV}{es:List PV}(h0:(rdI b).2=true)(h:(rdI b).1=e :: es)(h1:e.S.length=15)(h2:(es.all fun e=>!e.S.isEmpty)=true) :
  rvI b=if zBd [.int .i64 (nth (zi 5 e.S) 0).I,.int .i64 (nth (zi 5 e.S) 1).I,.bool ((nth (zi 5 e.S) 2).I == 1),.int .i64 (nth (zi 5 e.S) 3).I,.int .i64 (nth (zi 5 e.S) 4).I,.list (es.map zDn)]=true ∧
   zDW ⟨(nth (zi 5 e.S) 0).I,(nth (zi 5 e.S) 1).I,(nth (zi 5 e.S) 2).I == 1,(nth (zi 5 e.S) 3).I,(nth (zi 5 e.S) 4).I,es.map zDn⟩=b then (⟨(nth (zi 5 e.S) 0).I,(nth (zi 5 e.S) 1).I,(nth (zi 5 e.S) 2).I == 1,(nth (zi 5 e.S) 3).I,(nth (zi 5 e.S) 4).I,es.map zDn⟩,true) else (VW.no,false):=by
 unfold rvI
 rw[if_pos h0,h,zP1,if_pos ⟨h1,h2⟩]
 rfl
def zBa:zP:=⟨[(.rd,.str)],[.agg [.int .i64,.int .i64,.bool,.int .i64,.int .i64,.list (.agg [.int .i64,.str])],.bool],true,fun _=>True,fun ps=>[(rvI (nth ps 0).S).1.pv,.bool (rvI (nth ps 0).S).2],fun _=>[]⟩
theorem zLS:yQ Try.prog 24 zBa:=by
 refine zf [0,2,3,4,5,6,7,9,51,52,53] [.cell 2 26,.tmp 3] (zA (cs:=[]) zHK (zA (cs:=[]) zKh (zA (cs:=[]) zHt (zA (cs:=[]) zIl (zG (zD [])))))) zb Try.func24 rfl (by decide) rfl (by decide) rfl ?_
 intro ps hT hpre W hW
 simp only[zBa,TyA,Ty,Tys] at hT hpre
 obtain⟨_,_,rfl,⟨b,rfl,hb⟩,rfl⟩:=hT
 refine hW.vc [(7,[18],tkN [0,1,2,3,4,5,6,7,8,9,10,11,12,13,14,15,16] (alN [17,18] .done)),(13,[9,11],tkN [0,1,2,3,4,5,6,7] (alN [8,9] (tkN [10] (alS 11 .done))))] _ _ ?_
 simp[-List.getD_eq_getElem?_getD,zBa,yh,zAG,yA,zAF,zp,zp,VW.pv]
 refine fun h0=>⟨fun h=>by rw[zN2 h];simp[VW.no],fun h1 h2=>⟨List.length_pos_iff.2 h2,fun _=>⟨fun h3=>?_,fun h3=>?_⟩⟩⟩
 ·obtain⟨e,es,he⟩:∃e es,(rdI b).1=e :: es:=by cases h:(rdI b).1 with | nil=>exact absurd h h2 | cons e es=>exact⟨e,es,rfl⟩
  rw[he,zF] at h3
  rw[zN1 he (.inl (zSU h3))];simp[VW.no]
 obtain⟨e,es,he⟩:∃e es,(rdI b).1=e :: es:=by cases h:(rdI b).1 with | nil=>exact absurd h h2 | cons e es=>exact⟨e,es,rfl⟩
 have hl:=zP2 b
 rw[he,zF] at h3 ⊢
 rw[he] at hl
 obtain⟨h4,h5⟩:=zST h3
 rw[h5,zCv]
 refine⟨by decide +kernel,by omega,fun _=>⟨by omega,by omega,fun _=>⟨by omega,by omega,fun _=>⟨by omega,by omega,fun _=>⟨by omega,by omega,fun _=>⟨by simp only[List.length_cons];omega,fun _ _=>?_⟩⟩⟩⟩⟩⟩
 have e1:List.take ((e :: es).length - 1) (e :: es).tail=es:=by simp
 have e2:(e :: es).length - 1=es.length:=by simp
 rw[e1,e2]
 generalize hns:zi 5 e.S=ns at *
 refine hW.loopS _ _ _ [.bx 7 [.int .i64,.int .i64,.bool,.int .i64,.int .i64,.list (.agg [.int .i64,.str])],.sl 53 .dp (.int .i64)] (fun ys=>∃(i:Nat),ys=[.agg [.int .i64 (nth ns 0).I,.int .i64 (nth ns 1).I,.bool ((nth ns 2).I == 1),.int .i64 (nth ns 3).I,.int .i64 (nth ns 4).I,.list ((es.take i).map zDn)],.int .i64 i]∧i≤es.length∧((es.take i).all fun e=>!e.S.isEmpty)=true) (fun ys=>es.length - (nth ys 1).I.toNat) ?_ ?_
 ·simp[-List.getD_eq_getElem?_getD,zBa,yh,zAG,yA,zAF,zp,zp,VW.pv]
  exact⟨0,⟨.inl rfl,rfl⟩,by omega,by simp⟩
 ·rintro ys ⟨i,rfl,g1,g2⟩
  refine hW.vc [(7,[18],tkN [0,1,2,3,4,5,6,7,8,9,10,11,12,13,14,15,16] (alN [17,18] .done)),(13,[9,11],tkN [0,1,2,3,4,5,6,7] (alN [8,9] (tkN [10] (alS 11 .done))))] _ _ ?_
  simp[-List.getD_eq_getElem?_getD,zBa,yh,zAG,yA,zAF,zp,zp,VW.pv]
  refine⟨fun g3=>⟨g3,fun _=>⟨fun g4=>?_,fun g4=>?_⟩⟩,fun g3=>?_⟩
  ·rw[zN1 he (.inr ?_)]
   ·simp[VW.no]
   ·rw[List.all_eq_false]
    exact⟨_,yJ g3,by simp[g4]⟩
  ·have g5:=List.length_pos_iff.2 g4
   refine⟨by decide +kernel,g5,by omega,by omega,fun _=>⟨⟨i+1,⟨?_,by rw[zC (by omega)];omega⟩,by omega,?_⟩,by rw[zC (by omega)];omega⟩⟩
   ·have e3:List.take ((nth es i).S.length - 1) (nth es i).S.tail=(nth es i).S.drop 1:=by
     rw[←List.drop_one];exact List.take_of_length_le (by simp)
    rw[e3,zAe (by simpa using g3),zHm _ _ _ g3,zC5,zB9 g3]
    rfl
   ·intro x hx
    rw[zAe g3] at hx
    rcases List.mem_append.1 hx with hx | hx
    ·have:=List.all_eq_true.1 g2 x hx
     intro e;rw[e] at this;simp at this
    ·rw[List.mem_singleton] at hx;rw[hx];exact g4
  ·rw[List.take_of_length_le (by simpa using g3)]
   rw[List.take_of_length_le g3] at g2
   have hc:=zSg h1 he h4 g2
   rw[hns] at hc
   refine⟨fun g4=>?_,fun g4 g5=>?_⟩
   ·rw[if_neg] at hc
    ·rw[hc];simp[VW.no]
    ·rintro⟨g5,g6⟩
     rcases g4 with g4 | g4
     ·rw[g4] at g5;cases g5
     ·exact g4 g6
   ·rw[if_pos ⟨g4,g5⟩] at hc
    rw[hc];simp
def rvS(b:List UInt8):VW × Bool:=if (rdS b).2=true then match zP1 (rdS b).1 with
 | some (v,k)=>if inB k 0 1=true then (v,zBd v.ls') else (VW.no,false)
 | none=>(VW.no,false) else (VW.no,false)
theorem zKO:∀(n:Nat) (t:List UInt8) (es:List PV) (r:List UInt8),zGn n t=some (es,r)→∀e∈es,e.S.length≤20000
 | 0,t,es,r,h=>by
  simp only[zGn,Option.some.injEq,Prod.mk.injEq] at h
  obtain⟨rfl,rfl⟩:=h
  simp
 | n+1,t,es,r,h=>by
  rw[zGn] at h
  split at h
  ·cases h
  ·rename_i h1
   simp only[Option.map_eq_some_iff,Prod.mk.injEq] at h
   obtain⟨⟨es',r'⟩,h2,rfl,rfl⟩:=h
   have h3:=zKO n _ _ _ h2
   intro e he
   rcases List.mem_cons.1 he with rfl | he
   ·rw[zCt,List.length_take];omega
   ·exact h3 e he
theorem zN8{b:List UInt8}(h:(rdS b).2=true):rdF b=some ((rdS b).1,[]):=by
 unfold rdS at h ⊢
 split at h
 ·cases h
 ·rename_i es r hF
  split at h
  ·rename_i hr;subst hr;simp[hF]
  ·cases h
theorem zMT{b:List UInt8}(h:(rdS b).2=true):(rdS b).1.length≤60∧b=yS (rdS b).1∧∀e∈(rdS b).1,e.S.length≤20000:=by
 have h1:=zN8 h
 obtain⟨h2,h3⟩:=zJS h1
 refine⟨h2,by simpa using h3,?_⟩
 unfold rdF at h1
 split at h1
 ·cases h1
 ·exact zKO _ _ _ _ h1
theorem zN0{b:List UInt8}(h:(rdS b).2=false∨(rdS b).1=[]):rvS b=(VW.no,false):=by
 unfold rvS
 split
 ·rename_i h1
  rcases h with h | h
  ·rw[h] at h1;cases h1
  ·rw[h];rfl
 ·rfl
theorem zMM{b:List UInt8}{e:PV}{es:List PV}(h:(rdS b).1=e :: es)(h2:e.S.length≠15∨inB (nth (zi 5 e.S) 2).I 0 1=false∨(es.all fun e=>!e.S.isEmpty)=false):rvS b=(VW.no,false):=by
 unfold rvS
 split
 ·rw[h,zP1]
  split
  ·rename_i v k hk
   split at hk
   ·rename_i h3
    rcases h2 with h2 | h2 | h2
    ·exact absurd h3.1 h2
    ·cases hk;rw[h2];rfl
    ·rw[h2] at h3;cases h3.2
   ·cases hk
  ·rfl
 ·rfl
theorem zSf{b:List UInt8}{e:PV}{es:List PV}(h0:(rdS b).2=true)(h:(rdS b).1=e :: es)(h1:e.S.length=15)(hk:inB (nth (zi 5 e.S) 2).I 0 1=true)(h2:(es.all fun e=>!e.S.isEmpty)=true) :
  rvS b=(⟨(nth (zi 5 e.S) 0).I,(nth (zi 5 e.S) 1).I,(nth (zi 5 e.S) 2).I == 1,(nth (zi 5 e.S) 3).I,(nth (zi 5 e.S) 4).I,es.map zDn⟩,zBd [.int .i64 (nth (zi 5 e.S) 0).I,.int .i64 (nth (zi 5 e.S) 1).I,.bool ((nth (zi 5 e.S) 2).I == 1),.int .i64 (nth (zi 5 e.S) 3).I,.int .i64 (nth (zi 5 e.S) 4).I,.list (es.map zDn)]):=by
 unfold rvS
 rw[if_pos h0,h,zP1,if_pos ⟨h1,h2⟩]
 show(if inB (nth (zi 5 e.S) 2).I 0 1=true then _ else _)=_
 rw[if_pos hk]
 rfl
theorem zSo{s:List UInt8}(h:(zKW s).2=false∨¬((zKW s).1.length:Int)=5):s.length≠15:=by
 intro e
 have:(zKW s)=(zi (s.length / 3) s,true):=if_pos (by omega)
 rw[this,e] at h
 simp[zCv] at h
theorem zSn{s:List UInt8}(h:(zKW s).2=true)(h1:((zKW s).1.length:Int)=5):s.length=15∧(zKW s).1=zi 5 s:=by
 by_cases e:s.length % 3=0
 ·have h2:(zKW s)=(zi (s.length / 3) s,true):=if_pos e
  rw[h2] at h1 ⊢
  simp only[zCv] at h1
  have e5:s.length / 3=5:=by omega
  exact⟨by omega,by simp only[e5]⟩
 ·have h2:(zKW s)=([],false):=if_neg e
  rw[h2] at h;cases h
def zCG:zP:=⟨[(.rd,.str)],[.agg [.int .i64,.int .i64,.bool,.int .i64,.int .i64,.list (.agg [.int .i64,.str])],.bool],true,fun ps=>(nth ps 0).S.length≤65536,fun ps=>[(rvS (nth ps 0).S).1.pv,.bool (rvS (nth ps 0).S).2],fun _=>[]⟩
theorem zMw:yQ Try.prog 25 zCG:=by
 refine zf [0,2,3,4,5,6,7,8,9] [.cell 2 26,.tmp 3] (zA (cs:=[]) zIj (zA (cs:=[]) zAJ (zA (cs:=[]) zFN (zA (cs:=[]) zM2 (zG (zD [])))))) zb Try.func25 rfl (by decide) rfl (by decide) rfl ?_
 intro ps hT hpre W hW
 simp only[zCG,TyA,Ty,Tys] at hT hpre
 obtain⟨_,_,rfl,⟨b,rfl,hb⟩,rfl⟩:=hT
 simp only[zF,zCt] at hpre
 refine hW.vc [(7,[19],tkN [0,1,2,3,4,5,6,7,8,9,10,11,12,13,14,15] (.alt 16 (tkN [17] (alN [18,19] .done)) (alN [18,16] (tkN [17] (alS 19 .done))))),(13,[15,17],tkN [0,1,2,3,4,5,6,7,8,9,10,11,12,13] (alN [14,15] (tkN [16] (alS 17 .done)))),(14,[3],tkN [0,1] (alN [2,3,4] .done))] _ _ ?_
 simp[-List.getD_eq_getElem?_getD,zCG,zBK,yD,zY,zAk,zJ,yA,zJ,yA,VW.pv]
 refine⟨hpre,fun _=>⟨fun h=>?_,fun h1 h2=>?_⟩⟩
 ·rw[zN0 (by rcases h with h | h;exact .inl h;right;exact List.eq_nil_of_length_eq_zero (by omega))];simp[VW.no]
 obtain⟨e,es,he⟩:∃e es,(rdS b).1=e :: es:=by cases h:(rdS b).1 with | nil=>rw[h] at h2;simp at h2 | cons e es=>exact⟨e,es,rfl⟩
 obtain⟨f1,f2,f3⟩:=zMT h1
 rw[he] at f1 f3
 rw[he,zF]
 have f4:=f3 e (by simp)
 refine⟨by simp,fun _=>⟨by omega,fun _=>⟨fun h3 h4=>⟨⟨h3,h4⟩,by omega⟩,fun h3 h4=>⟨⟨h3,h4⟩,by omega⟩,fun _=>⟨fun h=>?_,fun h3 h4 h5=>?_⟩⟩⟩⟩
 ·rw[zMM he ?_]
  ·simp[VW.no]
  by_cases e15:e.S.length=15
  ·rcases h with h | h
   ·exact absurd e15 (zSo h)
   ·right;left
    have:(zKW e.S).1=zi 5 e.S:=by rw[zKW,if_pos (by omega),e15]
    rwa[this] at h
  ·exact .inl e15
 obtain⟨h6,h7⟩:=zSn h3 h4
 rw[h7] at h5 ⊢
 rw[zCv]
 refine⟨by decide +kernel,by omega,fun _=>⟨by omega,by omega,fun _=>⟨by omega,by omega,fun _=>⟨by omega,by omega,fun _=>⟨by omega,by omega,fun _=>?_⟩⟩⟩⟩⟩
 generalize hns:zi 5 e.S=ns at *
 constructor<;>refine hW.loopS _ _ _ [.bx 8 [.int .i64,.int .i64,.bool,.int .i64,.int .i64,.list (.agg [.int .i64,.str])],.sl 9 .dp (.int .i64)] (fun ys=>∃(i:Nat),ys=[.agg [.int .i64 (nth ns 0).I,.int .i64 (nth ns 1).I,.bool ((nth ns 2).I == 1),.int .i64 (nth ns 3).I,.int .i64 (nth ns 4).I,.list ((es.take i).map zDn)],.int .i64 (i+1:Nat)]∧i≤es.length∧((es.take i).all fun e=>!e.S.isEmpty)=true) (fun ys=>es.length+1 - (nth ys 1).I.toNat) ?_ ?_
 case left.refine_1 | right.refine_1=>
  simp[-List.getD_eq_getElem?_getD,zCG,zBK,yD,zY,zAk,zJ,yA,zJ,yA,VW.pv]
  exact⟨0,⟨.inl rfl,rfl⟩,by omega,by simp⟩
 case left.refine_2 | right.refine_2=>
  rintro ys ⟨i,rfl,g1,g2⟩
  refine hW.vc [(7,[19],tkN [0,1,2,3,4,5,6,7,8,9,10,11,12,13,14,15] (.alt 16 (tkN [17] (alN [18,19] .done)) (alN [18,16] (tkN [17] (alS 19 .done))))),(13,[15,17],tkN [0,1,2,3,4,5,6,7,8,9,10,11,12,13] (alN [14,15] (tkN [16] (alS 17 .done)))),(14,[3],tkN [0,1] (alN [2,3,4] .done))] _ _ ?_
  simp[-List.getD_eq_getElem?_getD,zCG,zBK,yD,zY,zAk,zJ,yA,zJ,yA,VW.pv]
  refine fun _=>⟨fun g3=>⟨⟨by omega,g3⟩,g3,fun _=>⟨fun g4=>?_,fun g4=>?_⟩⟩,fun g3=>?_⟩
  ·rw[zMM he (.inr (.inr ?_))]
   ·simp[VW.no]
   ·rw[List.all_eq_false]
    exact⟨_,yJ g3,by simp[g4]⟩
  ·have g5:=List.length_pos_iff.2 g4
   refine⟨by decide +kernel,⟨by omega,g3⟩,g3,fun _=>⟨g5,⟨by omega,g3⟩,g3,fun _=>⟨by omega,by simp only[List.length_cons] at f1;omega,fun _=>⟨⟨i+1,⟨?_,by rw[zC (by simp only[List.length_cons] at f1;omega)];omega⟩,by omega,?_⟩,by rw[zC (by simp only[List.length_cons] at f1;omega)];omega⟩⟩⟩⟩
   ·have e3:List.take ((nth es i).S.length - 1) (nth es i).S.tail=(nth es i).S.drop 1:=by
     rw[←List.drop_one];exact List.take_of_length_le (by simp)
    rw[e3,zAe (by simpa using g3),zHm _ _ _ g3,zC5,zB9 g3]
    rfl
   ·intro x hx
    rw[zAe g3] at hx
    rcases List.mem_append.1 hx with hx | hx
    ·have:=List.all_eq_true.1 g2 x hx
     intro e;rw[e] at this;simp at this
    ·rw[List.mem_singleton] at hx;rw[hx];exact g4
  ·rw[List.take_of_length_le (by simpa using g3)]
   rw[List.take_of_length_le g3] at g2
   have hc:=zSf h1 he h6 (by rw[hns];exact h5) g2
   rw[hns] at hc
   rw[hc]
   exact⟨by decide +kernel,by simp⟩
end
section
variable [ze]
def zIg(n:Int):Bool:=decide (n > 65536)
def zCK:zP:=⟨[(.rd,.int .i64)],[.bool],true,fun _=>True,fun ps=>[.bool (zIg (nth ps 0).I)],fun _=>[]⟩
theorem zM3:yQ Try.prog 44 zCK:=by
 refine zf [0,2] [.tmp 2] (zG (zD [])) zb Try.func44 rfl (by decide) rfl (by decide) rfl ?_
 intro ps hT hpre W hW
 simp only[zCK,TyA,Ty,Tys] at hT hpre
 obtain⟨_,_,rfl,⟨n,rfl,hn⟩,rfl⟩:=hT
 refine hW.vc [] _ _ ?_
 simp[-List.getD_eq_getElem?_getD,zCK]
 rfl
def yH:zP:=⟨[(.rd,.list (.int .i64)),(.rd,.fn 44 [])],[.int .i64],true,fun ps=>True,fun ps=>[.int .i64 (zES (fun e=>zIg e.I) 0 (nth ps 0).L)],fun _=>[]⟩
theorem zDv:yQ Try.prog 62 yH:=by
 refine zf [0,1,4,5,7,8] [.tmp 4] (zA (cs:=[]) zM3 (zG (zD []))) zb Try.func62 rfl (by decide) rfl (by decide) rfl ?_
 intro ps hT hpre W hW
 simp only[yH,TyA,Ty,Tys] at hT hpre
 obtain⟨_,_,rfl,⟨es,rfl,he,hes⟩,_,_,rfl,⟨_,rfl,rfl⟩,rfl⟩:=hT
 refine hW.vc [] _ _ ?_
 simp[-List.getD_eq_getElem?_getD,yH,zCK]
 intro h1
 refine hW.loopS _ _ _ [.sl 8 .dp (.int .i64)] (fun ys=>∃i:Nat,ys=[.int .i64 i]∧i≤es.length∧zES (fun e=>zIg e.I) 0 es=zES (fun e=>zIg e.I) i (es.drop i)) (fun ys=>es.length - (nth ys 0).I.toNat) ?_ ?_
 ·simp[-List.getD_eq_getElem?_getD,yH,zCK]
  exact⟨0,rfl,by simp,by simp⟩
 ·rintro ys ⟨i,rfl,h2,h3⟩
  refine hW.vc [] _ _ ?_
  simp[-List.getD_eq_getElem?_getD,yH,zCK]
  refine⟨fun h4=>⟨h4,fun _=>⟨fun h5=>?_,fun h5=>?_⟩⟩,fun h4=>?_⟩
  ·rw[h3,zBC h4];simp[zES,h5]
  ·rw[zC (by omega)]
   refine⟨⟨i+1,by omega,by omega,?_⟩,by omega⟩
   rw[h3,zBC h4];simp[zES,h5]
  ·rw[h3,List.drop_eq_nil_of_le h4];rfl
def yU:zP:=⟨[(.rd,.list (.int .i64)),(.rd,.fn 44 [])],[.bool],true,fun ps=>True,fun ps=>[.bool ((nth ps 0).L.any (fun e=>zIg e.I))],fun _=>[]⟩
theorem zCl:yQ Try.prog 43 yU:=by
 refine zf [0,1,4] [.tmp 4] (zA (cs:=[44]) zDv (zG (zD []))) zb Try.func43 rfl (by decide) rfl (by decide) rfl ?_
 intro ps hT hpre W hW
 simp only[yU,TyA,Ty,Tys] at hT hpre
 obtain⟨_,_,rfl,⟨es,rfl,he,hes⟩,_,_,rfl,⟨_,rfl,rfl⟩,rfl⟩:=hT
 refine hW.vc [] _ _ ?_
 simp[-List.getD_eq_getElem?_getD,yU,yH]
 exact zGW (fun e=>zIg e.I) es 0
def zFg:zP:=⟨[(.rd,.list (.int .i64))],[.bool],true,fun _=>True,fun ps=>[.bool ((nth ps 0).L.any (fun e=>zIg e.I))],fun _=>[]⟩
theorem zOY:yQ Try.prog 23 zFg:=by
 refine zf [0,2] [.tmp 2] (zA (cs:=[44]) zCl (zG (zD []))) zb Try.func23 rfl (by decide) rfl (by decide) rfl ?_
 intro ps hT hpre W hW
 simp only[zFg,TyA,Ty,Tys] at hT hpre
 obtain⟨_,_,rfl,⟨es,rfl,hes,tes⟩,rfl⟩:=hT
 refine hW.vc [] _ _ ?_
 simp[-List.getD_eq_getElem?_getD,zFg,yU]
end
section
variable [ze]
theorem zGC:∀(n:Nat) (s:List UInt8),s.length=3*n→zAy (zi n s)=s
 | 0,s,h=>by have:=List.eq_nil_of_length_eq_zero h;subst this;rfl
 | n+1,s,h=>by
  have ih:=zGC n (s.drop 3) (by rw[List.length_drop];omega)
  unfold zAy at ih ⊢
  rw[zi,List.flatMap_cons,ih,zAS,Int.sub_add_cancel,zHo (by rw[List.length_take];omega),List.take_append_drop]
theorem zLL{s:List UInt8}(h:s.length=15):zAy [.int .i64 (nth (zi 5 s) 0).I,.int .i64 (nth (zi 5 s) 1).I,.int .i64 (nth (zi 5 s) 2).I,.int .i64 (nth (zi 5 s) 3).I,.int .i64 (nth (zi 5 s) 4).I]=s:=
 (show _=zAy (zi 5 s) from rfl).trans (zGC 5 s h)
theorem zQA(s:List UInt8)(h:s.length=15):zAp (nB ((nth (zi 5 s) 2).I+1) 3)=(nth (zi 5 s) 2).I+1:=by
 have e:(nth (zi 5 s) 2).I=zAp (((s.drop 3).drop 3).take 3) - 1:=rfl
 rw[e,Int.sub_add_cancel,zHo (by simp[h])]
theorem zOF{s:List UInt8}(h:s.length=15){a b c d e:Int}(h0:nth (zi 5 s) 0=.int .i64 a)(h1:nth (zi 5 s) 1=.int .i64 b)(h2:nth (zi 5 s) 2=.int .i64 c)(h3:nth (zi 5 s) 3=.int .i64 d)(h4:nth (zi 5 s) 4=.int .i64 e) :
  zAy [.int .i64 a,.int .i64 b,.int .i64 (zGo (c == 1)),.int .i64 d,.int .i64 e]=s↔inB c 0 1=true:=by
 have h5:=zLL h
 have h6:=zQA s h
 simp only[h0,h1,h2,h3,h4,zAS] at h5 h6
 conv=>lhs;rhs;rw[←h5]
 simp only[zAy,List.flatMap_cons,List.flatMap_nil,zAS]
 constructor
 ·intro h7
  have h8:=List.append_cancel_left (List.append_cancel_left h7)
  obtain⟨h9,_⟩:=List.append_inj h8 (by rw[yn,yn])
  have h10:=congrArg zAp h9
  rw[h6] at h10
  cases hc:c == 1 with
  | true=>
   have:c=1:=by simpa using hc
   subst this;rfl
  | false=>
   rw[hc] at h10
   have e1:zAp (nB (zGo false+1) 3)=1:=by decide
   rw[e1] at h10
   have:c=0:=by omega
   subst this;rfl
 ·intro h7
  simp only[inB,Bool.and_eq_true,decide_eq_true_eq] at h7
  have:zGo (c == 1)=c:=by
   rcases (show c=0∨c=1 by omega) with rfl | rfl<;>rfl
  rw[this]
theorem zKl{α β:Type}{f g:α→List β}:∀{l:List α},(∀x∈l,f x=g x)→l.flatMap f=l.flatMap g
 | [],_=>rfl
 | x :: l,h=>by rw[List.flatMap_cons,List.flatMap_cons,h x (by simp),zKl fun y hy=>h y (by simp[hy])]
theorem zN4{e:PV}(h:e.S≠[]):nB (nth (zDn e).A 0).I 1++(nth (zDn e).A 1).S=e.S:=by
 simp only[zDn,zBp,zF,zK,zAS,zCt]
 cases hs:e.S with
 | nil=>exact absurd hs h
 | cons x s=>
  have:=zGl x 0
  rw[Int.zero_mul,Int.zero_add] at this
  simp[nB,this]
theorem zHy{X:List UInt8}{e:PV}{es fs:List PV}(hl:fs.length=es.length)(hX:X.length=e.S.length)(h:fs.flatMap (fun e=>nB e.S.length 2++e.S)=es.flatMap (fun e=>nB e.S.length 2++e.S)):yS (.str X :: fs)=yS (e :: es)↔X=e.S:=by
 simp only[yS,List.length_cons,List.flatMap_cons,zCt,hl,h,hX]
 constructor
 ·intro h1
  have h2:=(List.cons.inj h1).2
  have h3:=List.append_cancel_right h2
  exact List.append_cancel_left h3
 ·rintro rfl;rfl
theorem zLz{e:PV}{es:List PV}(h:e.S.length=15)(h2:(es.all fun e=>!e.S.isEmpty)=true) :
  zDW ⟨(nth (zi 5 e.S) 0).I,(nth (zi 5 e.S) 1).I,(nth (zi 5 e.S) 2).I == 1,(nth (zi 5 e.S) 3).I,(nth (zi 5 e.S) 4).I,es.map zDn⟩=yS (e :: es)↔inB (nth (zi 5 e.S) 2).I 0 1=true:=by
 unfold zDW
 rw[zHy (by simp) (by rw[zAM,h];rfl)]
 ·exact zOF h rfl rfl rfl rfl rfl
 ·rw[List.map_map,List.flatMap_map]
  refine zKl fun x hx=>?_
  have h3:=List.all_eq_true.1 h2 x hx
  have h4:=zN4 (e:=x) (by intro e;rw[e] at h3;simp at h3)
  simp only[Function.comp,zCt,h4]
theorem zML{b:List UInt8}(hb:b.length≤65536):(rvS b).2=(rvI b).2∧((rvI b).2=true→(rvS b).1=(rvI b).1):=by
 have hI:rdI b=match rdF b with | none=>([],false) | some (es,r)=>(es,r.isEmpty):=if_neg (by omega)
 cases hF:rdF b with
 | none=>
  rw[hF] at hI
  rw[zN2 (b:=b) (.inl (by rw[hI])),zN0 (b:=b) (.inl (by rw[rdS,hF]))]
  exact⟨rfl,fun _=>rfl⟩
 | some x=>
  obtain⟨es,r⟩:=x
  rw[hF] at hI
  by_cases hr:r=[]
  ·subst hr
   have hS:rdS b=(es,true):=by rw[rdS,hF];rfl
   have hI:rdI b=(es,true):=hI
   cases es with
   | nil=>
    rw[zN2 (b:=b) (.inr (by rw[hI])),zN0 (b:=b) (.inr (by rw[hS]))]
    exact⟨rfl,fun _=>rfl⟩
   | cons e es=>
    by_cases h15:e.S.length=15
    ·cases hall:es.all fun e=>!e.S.isEmpty with
     | false=>
      rw[zN1 (b:=b) (by rw[hI]) (.inr hall),zMM (b:=b) (by rw[hS]) (.inr (.inr hall))]
      exact⟨rfl,fun _=>rfl⟩
     | true=>
      have hc:=zSg (b:=b) (by rw[hI]) (by rw[hI]) h15 hall
      have hbk:=zLz h15 hall
      have hbe:b=yS (e :: es):=by simpa using (zJS hF).2
      rw[←hbe] at hbk
      cases hk:inB (nth (zi 5 e.S) 2).I 0 1 with
      | false=>
       rw[if_neg (fun h=>by rw[hbk.1 h.2] at hk;cases hk)] at hc
       rw[hc,zMM (b:=b) (by rw[hS]) (.inr (.inl hk))]
       exact⟨rfl,fun _=>rfl⟩
      | true=>
       rw[zSf (b:=b) (by rw[hS]) (by rw[hS]) h15 hk hall]
       split at hc
       ·rename_i hv
        rw[hc]
        exact⟨hv.1,fun _=>rfl⟩
       ·rename_i hv
        rw[hc]
        refine⟨?_,fun h=>by cases h⟩
        show zBd _=false
        rw[←Bool.not_eq_true]
        exact fun hw=>hv ⟨hw,hbk.2 hk⟩
    ·rw[zN1 (b:=b) (by rw[hI]) (.inl h15),zMM (b:=b) (by rw[hS]) (.inl h15)]
     exact⟨rfl,fun _=>rfl⟩
  ·have h1:(rdI b).2=false:=by rw[hI];cases r with | nil=>exact absurd rfl hr | cons _ _=>rfl
   have h2:(rdS b).2=false:=by rw[rdS,hF];show(if r=[] then _ else _:List PV × Bool).2=_;rw[if_neg hr]
   rw[zN2 (b:=b) (.inl h1),zN0 (b:=b) (.inl h2)]
   exact⟨rfl,fun _=>rfl⟩
def rvV(b:List UInt8):VW × Int:=if 65536 < b.length then (VW.no,2) else if (rvI b).2=true then ((rvI b).1,0) else (VW.no,3)
def yl:zP:=⟨[(.rd,.list (.int .u8))],[.agg [.int .i64,.int .i64,.bool,.int .i64,.int .i64,.list (.agg [.int .i64,.str])],.int .i64],true,fun _=>True,fun ps=>[(rvV (yL (nth ps 0).L)).1.pv,.int .i64 (rvV (yL (nth ps 0).L)).2],fun _=>[]⟩
theorem zJk:yQ Try.prog 10 yl:=by
 refine zf [0,2,3,4,5] [.cell 2 26,.tmp 3] (zA (cs:=[]) zLS (zA (cs:=[]) zOY (zG (zD [])))) zb Try.func10 rfl (by decide) rfl (by decide) rfl ?_
 intro ps hT hpre W hW
 simp only[yl,TyA,Ty,Tys] at hT hpre
 obtain⟨_,_,rfl,⟨es,rfl,hes,tes⟩,rfl⟩:=hT
 have hp:(yL es).length=es.length:=by simp[yL]
 refine hW.vc [] _ _ ?_
 simp[-List.getD_eq_getElem?_getD,yl,zFg,zBa,VW.pv]
 rw[zIg,decide_eq_true_iff,decide_eq_false_iff_not]
 refine fun _=>⟨fun h=>?_,fun h=>⟨fun h2=>?_,fun h2=>?_⟩⟩
 ·rw[rvV,if_pos (by omega)];simp[VW.no]
 ·rw[rvV,if_neg (by omega),if_neg (by simp[h2])];simp[VW.no]
 ·rw[rvV,if_neg (by omega),if_pos h2];simp
def zCe:zP:={ yl with }
theorem zJd:yQ Try.prog 12 zCe:=by
 refine zf [0,2,3,4,5] [.cell 2 26,.tmp 3] (zA (cs:=[]) zMw (zG (zD []))) zb Try.func12 rfl (by decide) rfl (by decide) rfl ?_
 intro ps hT hpre W hW
 simp only[zCe,TyA,Ty,Tys] at hT hpre
 simp only[yl,TyA,Ty,Tys] at hT hpre
 obtain⟨_,_,rfl,⟨es,rfl,hes,tes⟩,rfl⟩:=hT
 have hp:(yL es).length=es.length:=by simp[yL]
 refine hW.vc [] _ _ ?_
 simp[-List.getD_eq_getElem?_getD,zCe,zCG,yl,yl,VW.pv]
 refine fun _=>⟨fun h=>?_,fun h=>⟨by omega,fun h2=>?_,fun h2=>?_⟩⟩
 ·rw[rvV,if_pos (by omega)];simp[VW.no]
 ·have h3:=zML (b:=yL es) (by omega)
  rw[rvV,if_neg (by omega),if_neg (by rw[←h3.1,h2];simp)];simp[VW.no]
 ·have h3:=zML (b:=yL es) (by omega)
  have h4:(rvI (yL es)).2=true:=h3.1.symm.trans h2
  rw[rvV,if_neg (by omega),if_pos h4,h3.2 h4];simp
end
section
variable [ze]
theorem zDF{r:Int}(h:0≤r∧r < 16777216):zAp (nB r 3)=r:=by
 have e:nB r 3=[yF (r / 65536),yF (r / 256),yF r]:=by
  show[yF (r / 65536),yF (r / 256),yF (r / 1)]=_
  rw[Int.ediv_one]
 rw[e]
 simp only[zAp,List.foldl_cons,List.foldl_nil,zA6]
 omega
theorem zOH{r:Int}(h:0≤r∧r < 65536):zAp (nB r 2)=r:=by
 have e:nB r 2=[yF (r / 256),yF r]:=by
  show[yF (r / 256),yF (r / 1)]=_
  rw[Int.ediv_one]
 rw[e]
 simp only[zAp,List.foldl_cons,List.foldl_nil,zA6]
 omega
theorem zJN:∀{cs:List PV},(∀c∈cs,ceI c)→zJM (zGt cs)=true∧(zGt cs).length=4*cs.length
 | [],_=>⟨rfl,rfl⟩
 | c :: cs,h=>by
  obtain⟨q1,q2⟩:=zJN (cs:=cs) fun e he=>h e (List.mem_cons_of_mem _ he)
  obtain⟨r,l,rfl,r1,r2,r3,r4,l1,l2⟩:=h c (List.mem_cons_self ..)
  have e:zGt (cel r l :: cs)=(nB r 3++[yF l])++zGt cs:=by simp[zGt,cel]
  have ln:(nB r 3++[yF l]).length=4:=by simp[yn]
  have l3:(nB r 3).length=3:=yn r 3
  have t3:(zGt (cel r l :: cs)).take 3=nB r 3:=by rw[e,List.append_assoc,List.take_left' l3]
  have d4:(zGt (cel r l :: cs)).drop 4=zGt cs:=by rw[e,List.drop_left' ln]
  have g3:(zGt (cel r l :: cs)).getD 3 0=yF l:=by
   rw[e,List.append_assoc,List.getD_eq_getElem?_getD,List.getElem?_append_right (by omega),l3];rfl
  have hl:(zGt (cel r l :: cs)).length=4+(zGt cs).length:=by rw[e,List.length_append,ln]
  refine⟨?_,by rw[hl,q2,List.length_cons];omega⟩
  rw[zEq (by omega),t3,d4,g3,q1,zDF (by omega)]
  have i:zA0 r=true:=by
   simp only[zA0,Bool.and_eq_true,zER,bne_iff_ne,Bool.not_eq_true',ne_eq]
   refine⟨⟨⟨r1,r2⟩,r3⟩,?_⟩
   cases hq:inB r 55296 57343 with
   | false=>rfl
   | true=>exact absurd (zER.1 hq) r4
  have b:=zA6 l
  rw[i,Bool.true_and,Bool.and_true,decide_eq_true_eq];omega
def zDZ(s:SC):List PV:=(List.range s.h.toNat).map fun y=>.str (zGt ((s.cs.drop (y*s.w.toNat)).take s.w.toNat))
theorem zHf{s:SC}(h:ScI s):zBz (zDZ s) s.w s.h=true∧(zDZ s).length=s.h.toNat∧∀e∈zDZ s,∃b,e=.str b:=by
 have w:=h.w;have h':=h.h;have n:=h.nn
 refine⟨?_,by simp[zDZ],fun e he=>?_⟩
 ·simp only[zBz,Bool.and_eq_true,decide_eq_true_eq,List.all_eq_true]
  refine⟨by rw[zDZ,List.length_map,List.length_range];omega,fun e he=>?_⟩
  simp only[zDZ,List.mem_map,List.mem_range] at he
  obtain⟨y,hy,rfl⟩:=he
  have hl:((s.cs.drop (y*s.w.toNat)).take s.w.toNat).length=s.w.toNat:=by
   have:(y+1)*s.w.toNat≤s.h.toNat*s.w.toNat:=Nat.mul_le_mul_right _ hy
   have:(y+1)*s.w.toNat=y*s.w.toNat+s.w.toNat:=by rw[Nat.add_mul,Nat.one_mul]
   rw[List.length_take,List.length_drop];omega
  obtain⟨q1,q2⟩:=zJN (cs:=(s.cs.drop (y*s.w.toNat)).take s.w.toNat) fun c hc=>h.c c (List.mem_of_mem_drop (List.mem_of_mem_take hc))
  have q3:((zGt ((s.cs.drop (y*s.w.toNat)).take s.w.toNat)).length:Int)=4*s.w:=by rw[q2,hl];omega
  rw[zIP,zCt,q1,Bool.and_true,decide_eq_true_eq]
  exact q3
 ·simp only[zDZ,List.mem_map] at he
  obtain⟨y,_,rfl⟩:=he
  exact⟨_,rfl⟩
theorem zKQ:∀(es:List PV) (r:List UInt8),(∀e∈es,∃b,e=PV.str b∧b.length≤20000)→zGn es.length ((es.flatMap fun e=>nB e.S.length 2++e.S)++r)=some (es,r)
 | [],r,_=>rfl
 | e :: es,r,h=>by
  obtain⟨b,rfl,hb⟩:=h e (List.mem_cons_self ..)
  have ih:=zKQ es r fun x hx=>h x (List.mem_cons_of_mem _ hx)
  have l2:(nB b.length 2).length=2:=yn _ 2
  obtain⟨X,hX⟩:∃X,X=(es.flatMap fun e=>nB e.S.length 2++e.S)++r:=⟨_,rfl⟩
  rw[←hX] at ih
  have e1:((PV.str b :: es).flatMap fun e=>nB e.S.length 2++e.S)++r=nB b.length 2++(b++X):=by
   rw[hX];simp
  have t2:(nB b.length 2++(b++X)).take 2=nB b.length 2:=List.take_left' l2
  have n2:=zOH (r:=b.length) (by omega)
  rw[e1,List.length_cons,zGn,t2,n2,if_neg]
  ·rw[Int.toNat_natCast,←List.drop_drop,List.drop_left' l2,List.drop_left' rfl,List.take_left' rfl,ih];rfl
  ·simp only[List.length_append,l2];omega
theorem zP3{es:List PV}(h:∀e∈es,∃b,e=PV.str b∧b.length≤20000)(hl:es.length≤60)(hb:(yS es).length≤65536):rdI (yS es)=(es,true):=by
 have e0:(yS es).getD 0 0=yF es.length:=rfl
 have e1:(yF es.length).toNat=es.length:=by have:=zA6 es.length;omega
 have hF:rdF (yS es)=some (es,[]):=by
  rw[rdF,if_neg (by rw[e0,e1];rintro(q | q);cases q;omega),e0,e1]
  have:=zKQ es [] h
  rwa[List.append_nil] at this
 rw[rdI,if_neg (by omega),hF];rfl
theorem zMj{a b c d e:Int}(ha:0≤a∧a≤1000)(hb:0≤b∧b≤1000)(hc:0≤c∧c≤1000)(hd:0≤d∧d≤1000)(he:0≤e∧e≤1000):zi 5 (zAy [.int .i64 a,.int .i64 b,.int .i64 c,.int .i64 d,.int .i64 e])=[.int .i64 a,.int .i64 b,.int .i64 c,.int .i64 d,.int .i64 e]:=by
 have l (n:Int):(nB n 3).length=3:=yn n 3
 have e0:zAy [.int .i64 a,.int .i64 b,.int .i64 c,.int .i64 d,.int .i64 e]=nB (a+1) 3++(nB (b+1) 3++(nB (c+1) 3++(nB (d+1) 3++(nB (e+1) 3++[])))):=by simp[zAy]
 rw[e0]
 simp only[zi,List.take_left' (l _),List.drop_left' (l _)]
 rw[zDF (by omega),zDF (by omega),zDF (by omega),zDF (by omega),zDF (by omega)]
 simp
def rwT(e:PV):Prop:=∃(y:Int) (c:List UInt8),e=.agg [.int .i64 y,.str c]
theorem zKE{v:VW}(hv:zBd v.ls'=true)(hT:∀e∈v.r,rwT e):rvV (zDW v)=(v,0):=by
 obtain⟨n,f,u,w,h,es⟩:=v
 have hl:=zID (n:=n) (f:=f) (u:=u) (w:=w) (h:=h) (es:=es) hv
 obtain⟨⟨n0,n1,f0,f1,w0,w1,h0,h1,l1⟩,g2,g3,g4⟩:=zD6 (n:=n) (f:=f) (u:=u) (w:=w) (h:=h) (es:=es) hv
 have hu:=zKG g2
 have bu:0≤zGo u∧zGo u≤1:=by cases u<;>decide
 have q:∀e∈es,(nB (nth e.A 0).I 1++(nth e.A 1).S).length≤97∧(nB (nth e.A 0).I 1++(nth e.A 1).S)=yF (nth e.A 0).I :: (nth e.A 1).S:=fun e he=>by
  have:=hu e he
  have e1:nB (nth e.A 0).I 1=[yF (nth e.A 0).I]:=by
   show[yF ((nth e.A 0).I / 1)]=_
   rw[Int.ediv_one]
  rw[e1]
  refine⟨?_,rfl⟩
  simp only[List.length_append,List.length_singleton];omega
 have hd:rdI (zDW ⟨n,f,u,w,h,es⟩)=(.str (zAy [.int .i64 n,.int .i64 f,.int .i64 (zGo u),.int .i64 w,.int .i64 h]) :: es.map fun e=>.str (nB (nth e.A 0).I 1++(nth e.A 1).S),true):=by
  refine zP3 (fun e he=>?_) ?_ (Nat.le_trans hl (by decide))
  ·rcases List.mem_cons.1 he with z | z
   ·exact⟨_,z,by rw[zAM];simp⟩
   ·obtain⟨x,hx,rfl⟩:=List.mem_map.1 z
    exact⟨_,rfl,by have:=(q x hx).1;omega⟩
  ·simp only[List.length_cons,List.length_map];omega
 have hm:(es.map fun e=>PV.str (nB (nth e.A 0).I 1++(nth e.A 1).S)).map zDn=es:=by
  rw[List.map_map]
  conv=>rhs;rw[←List.map_id es]
  refine List.map_congr_left fun e he=>?_
  obtain⟨y,c,rfl⟩:=hT e he
  have h2:=(hu _ he).1
  have h3:=(q _ he).2
  simp only[zBp,zF,zK,zAS,zCt] at h2 h3
  show zDn (.str (nB y 1++c))=_
  rw[h3,zDn]
  simp only[zCt,List.drop_succ_cons,List.drop_zero,List.getD_cons_zero,zA6]
  rw[Int.emod_eq_of_lt h2.1 (by omega)];rfl
 have hr:rvI (zDW ⟨n,f,u,w,h,es⟩)=(⟨n,f,u,w,h,es⟩,true):=by
  rw[rvI,hd,if_pos rfl,zP1,if_pos]
  ·have hn:zi 5 (PV.str (zAy [.int .i64 n,.int .i64 f,.int .i64 (zGo u),.int .i64 w,.int .i64 h])).S=[.int .i64 n,.int .i64 f,.int .i64 (zGo u),.int .i64 w,.int .i64 h]:=
    zMj ⟨n0,by omega⟩ ⟨f0,by omega⟩ ⟨bu.1,by omega⟩ ⟨by omega,by omega⟩ ⟨by omega,by omega⟩
   rw[hn,hm]
   cases u
   ·exact if_pos ⟨hv,rfl⟩
   ·exact if_pos ⟨hv,rfl⟩
  ·refine⟨by rw[zCt,zAM];rfl,?_⟩
   rw[List.all_eq_true]
   intro e he
   obtain⟨x,hx,rfl⟩:=List.mem_map.1 he
   rw[zCt,(q x hx).2];rfl
 rw[rvV,if_neg (by omega),hr,if_pos rfl]
end
section
variable [ze]
def zEb:zP:=⟨[(.bx,.box [.int .i64,.list (.int .i64),.bool,.str,.str,.list (.agg [.int .i64,.int .i64,.bool,.list (.int .i64),.str])]),(.rd,.int .i64)],[],true,fun ps=>(nth (nth ps 0).A 5).L.length≤900000∧0≤(nth ps 1).I∧(nth ps 1).I≤255∧(nth (nth ps 0).A 0).I=0,fun _=>[],
 fun ps=>[rvP (zBf (zCZ (nth ps 0).A) (nth ps 1).I) (nth (nth ps 0).A 5).L]⟩
theorem zMv:yQ Try.prog 66 zEb:=by
 refine zf [0,1,8] [] (zA (cs:=[]) zMt (zG (zD []))) zb Try.func66 rfl (by decide) rfl (by decide) rfl ?_
 intro ps hT hpre W hW
 simp only[zEb,TyA,Ty,Tys] at hT hpre
 obtain⟨_,_,rfl,⟨_,rfl,_,_,rfl,⟨st,rfl,hst⟩,_,_,rfl,⟨ag,rfl,hag,tag⟩,_,_,rfl,⟨pr,rfl⟩,_,_,rfl,⟨tx,rfl,htx⟩,_,_,rfl,⟨ut,rfl,hut⟩,_,_,rfl,⟨out,rfl,hout,tout⟩,rfl⟩,_,_,rfl,⟨b,rfl,hb⟩,rfl⟩:=hT
 simp only[zF,zK,zBp,zCk,zAS] at hpre
 obtain⟨o1,b0,b1,s0⟩:=hpre
 subst s0
 refine hW.vc [] _ _ ?_
 simp[-List.getD_eq_getElem?_getD,zEb,zGk,PR.rv,zCZ,rvP]
 omega
def zEa:zP:=⟨[(.bx,.box [.int .i64,.list (.int .i64),.bool,.str,.str,.list (.agg [.int .i64,.int .i64,.bool,.list (.int .i64),.str])]),(.rd,.int .i64)],[],true,fun ps=>(nth (nth ps 0).A 5).L.length≤900000∧(nth (nth ps 0).A 0).I=1,fun _=>[],
 fun ps=>[rvP (zBl (zCZ (nth ps 0).A) (nth ps 1).I) (nth (nth ps 0).A 5).L]⟩
theorem zMu:yQ Try.prog 66 zEa:=by
 refine zf [0,1,8] [] (zA (cs:=[]) zHM (zG (zD []))) zb Try.func66 rfl (by decide) rfl (by decide) rfl ?_
 intro ps hT hpre W hW
 simp only[zEa,TyA,Ty,Tys] at hT hpre
 obtain⟨_,_,rfl,⟨_,rfl,_,_,rfl,⟨st,rfl,hst⟩,_,_,rfl,⟨ag,rfl,hag,tag⟩,_,_,rfl,⟨pr,rfl⟩,_,_,rfl,⟨tx,rfl,htx⟩,_,_,rfl,⟨ut,rfl,hut⟩,_,_,rfl,⟨out,rfl,hout,tout⟩,rfl⟩,_,_,rfl,⟨b,rfl,hb⟩,rfl⟩:=hT
 simp only[zF,zK,zBp,zCk,zAS] at hpre
 obtain⟨o1,s0⟩:=hpre
 subst s0
 refine hW.vc [] _ _ ?_
 simp[-List.getD_eq_getElem?_getD,zEa,zCF,PR.rv,zCZ,rvP]
 omega
def zFf:zP:=⟨[(.bx,.box [.int .i64,.list (.int .i64),.bool,.str,.str,.list (.agg [.int .i64,.int .i64,.bool,.list (.int .i64),.str])]),(.rd,.int .i64)],[],true,fun ps=>(nth (nth ps 0).A 5).L.length≤800000,fun _=>[],
 fun ps=>[rvP (zEs (zCZ (nth ps 0).A) (nth ps 1).I) (nth (nth ps 0).A 5).L]⟩
theorem zOQ:yQ Try.prog 81 zFf:=by
 refine zf [0,1,4] [] (zA (cs:=[]) zMu (zA (cs:=[]) zDI (zA (cs:=[]) zDJ (zG (zD []))))) zb Try.func81 rfl (by decide) rfl (by decide) rfl ?_
 intro ps hT hpre W hW
 simp only[zFf,TyA,Ty,Tys] at hT hpre
 obtain⟨_,_,rfl,⟨_,rfl,_,_,rfl,⟨st,rfl,hst⟩,_,_,rfl,⟨ag,rfl,hag,tag⟩,_,_,rfl,⟨pr,rfl⟩,_,_,rfl,⟨tx,rfl,htx⟩,_,_,rfl,⟨ut,rfl,hut⟩,_,_,rfl,⟨out,rfl,hout,tout⟩,rfl⟩,_,_,rfl,⟨b,rfl,hb⟩,rfl⟩:=hT
 simp only[zF,zK,zBp,zCk,zAS] at hpre
 refine hW.vc [] _ _ ?_
 simp[-List.getD_eq_getElem?_getD,zFf,zBW,zBV,zEa,PR.rv,zCZ,rvP]
 refine⟨fun h=>⟨by omega,?_⟩,fun h=>⟨by omega,?_⟩⟩
 ·rw[zEs,if_pos h];exact⟨rfl,rfl,rfl,rfl,rfl,rfl⟩
 ·rw[zEs,if_neg h];exact⟨rfl,rfl,rfl,rfl,rfl,rfl⟩
def zOp:zP:=⟨[(.bx,.box [.int .i64,.list (.int .i64),.bool,.str,.str,.list (.agg [.int .i64,.int .i64,.bool,.list (.int .i64),.str])]),(.rd,.int .i64)],[],true,fun ps=>(nth (nth ps 0).A 5).L.length≤800000∧(nth (nth ps 0).A 4).S.length≤3∧0≤(nth ps 1).I∧(nth ps 1).I≤255,fun _=>[],
 fun ps=>[rvP (zPm (zCZ (nth ps 0).A) (nth ps 1).I) (nth (nth ps 0).A 5).L]⟩
theorem k_utf:yQ Try.prog 82 zOp:=by
 refine zf [0,1,4] [] (zA (cs:=[]) zM0 (zA (cs:=[]) zIn (zA (cs:=[]) zMv (zA (cs:=[]) zDI (zA (cs:=[]) zDJ (zA (cs:=[]) zM1 (zG (zD [])))))))) zb Try.func82 rfl (by decide) rfl (by decide) rfl ?_
 intro ps hT hpre W hW
 simp only[zOp,TyA,Ty,Tys] at hT hpre
 obtain⟨_,_,rfl,⟨_,rfl,_,_,rfl,⟨st,rfl,hst⟩,_,_,rfl,⟨ag,rfl,hag,tag⟩,_,_,rfl,⟨pr,rfl⟩,_,_,rfl,⟨tx,rfl,htx⟩,_,_,rfl,⟨ut,rfl,hut⟩,_,_,rfl,⟨out,rfl,hout,tout⟩,rfl⟩,_,_,rfl,⟨b,rfl,hb⟩,rfl⟩:=hT
 simp only[zF,zK,zBp,zCk,zAS,zCt] at hpre
 refine hW.vc [(0,[],tkN [0,1,2,3,4,5,6] (alS 7 (tkN [8,9] (alS 10 .done))))] _ _ ?_
 simp[-List.getD_eq_getElem?_getD,zOp,zCJ,zBW,zBV,zEb,zC6,yp,PR.rv,zCZ,rvP]
 obtain⟨P,hP⟩:∃P:PR,P=⟨st,ag,pr,tx,ut⟩:=⟨_,rfl⟩
 rw[←hP]
 have hu:yL [PV.int .u8 (IntKind.u8.wrap b)]=[u8 b]:=rfl
 rw[hu]
 have hl:(ut++[u8 b]).length=ut.length+1:=by simp
 have l1:([u8 b]:List UInt8).length=1:=rfl
 refine⟨by decide +kernel,by omega,fun h=>⟨by omega,⟨by omega,hpre.2.2.1,hpre.2.2.2,rfl⟩,?_⟩,fun h _=>⟨fun h2=>?_,fun h2=>⟨⟨by omega,by omega⟩,by omega,?_⟩⟩⟩
 ·rw[zPm,if_pos (by rw[hP];exact h)];exact⟨rfl,rfl,rfl,rfl,rfl,rfl⟩
 ·rw[zPm,if_neg (by rw[hP];simp[h]),if_pos (by rw[hP];show((ut++[u8 b]).length:Int) < zDY (ut++[u8 b]);omega),hP];exact⟨rfl,rfl,rfl,rfl,rfl,rfl⟩
 ·rw[zPm,if_neg (by rw[hP];simp[h]),if_neg (by rw[hP];show ¬((ut++[u8 b]).length:Int) < zDY (ut++[u8 b]);omega),hP];exact⟨rfl,rfl,rfl,rfl,rfl,rfl⟩
def zDO:zP:=⟨[(.bx,.box [.int .i64,.list (.int .i64),.bool,.str,.str,.list (.agg [.int .i64,.int .i64,.bool,.list (.int .i64),.str])]),(.rd,.int .i64)],[],true,fun ps=>(nth (nth ps 0).A 5).L.length≤700000∧zD4 (zCZ (nth ps 0).A)∧0≤(nth ps 1).I∧(nth ps 1).I≤255,fun _=>[],
 fun ps=>[rvP (zD7 (zCZ (nth ps 0).A) (nth ps 1).I) (nth (nth ps 0).A 5).L]⟩
theorem zOR:yQ Try.prog 66 zDO:=by
 refine zf [0,1,8] [] (zA (cs:=[]) zMt (zA (cs:=[]) k_utf (zA (cs:=[]) zOQ (zA (cs:=[]) k_osc (zA (cs:=[]) zSv (zA (cs:=[]) zQO (zA (cs:=[]) zHM (zG (zD []))))))))) zb Try.func66 rfl (by decide) rfl (by decide) rfl ?_
 intro ps hT hpre W hW
 simp only[zDO,TyA,Ty,Tys] at hT hpre
 obtain⟨_,_,rfl,⟨_,rfl,_,_,rfl,⟨st,rfl,hst⟩,_,_,rfl,⟨ag,rfl,hag,tag⟩,_,_,rfl,⟨pr,rfl⟩,_,_,rfl,⟨tx,rfl,htx⟩,_,_,rfl,⟨ut,rfl,hut⟩,_,_,rfl,⟨out,rfl,hout,tout⟩,rfl⟩,_,_,rfl,⟨b,rfl,hb⟩,rfl⟩:=hT
 simp only[zF,zK,zBp,zCk,zAS] at hpre
 refine hW.vc [] _ _ ?_
 simp[-List.getD_eq_getElem?_getD,zDO,zCF,zH1,zK1,zOq,zFf,zOp,zGk,PR.rv,zCZ,rvP]
 obtain⟨o1,hO,b0,b1⟩:=hpre
 rw[zCZ] at hO
 simp only[zF,zK,zAS,zCk,zNj,zCt] at hO
 obtain⟨P,hP⟩:∃P:PR,P=⟨st,ag,pr,tx,ut⟩:=⟨_,rfl⟩
 have hs:P.st=st:=by rw[hP]
 rw[←hP] at hO ⊢
 have hut:P.st=6→ut.length≤3:=fun q=>by have:=hO.ul q;rwa[hP] at this
 refine⟨fun h=>⟨by omega,?_⟩,fun h=>⟨fun h2=>⟨⟨by omega,hO,h2,b0,b1⟩,?_⟩,fun h2=>⟨fun h3=>⟨by omega,?_⟩,fun h3=>⟨fun h4=>⟨⟨by omega,b0,b1⟩,?_⟩,fun h4=>⟨fun h5=>⟨by omega,?_⟩,fun h5=>⟨fun h6=>⟨⟨by omega,hut (hs.trans h6),b0,b1⟩,?_⟩,fun h6=>⟨⟨by omega,b0,b1⟩,?_⟩⟩⟩⟩⟩⟩⟩
 ·rw[zD7,hs,if_pos h];exact⟨rfl,rfl,rfl,rfl,rfl,rfl⟩
 ·rw[zD7,hs,if_neg h,if_pos h2];exact⟨rfl,rfl,rfl,rfl,rfl,rfl⟩
 ·rw[zD7,hs,if_neg h,if_neg h2,if_pos h3];exact⟨rfl,rfl,rfl,rfl,rfl,rfl⟩
 ·rw[zD7,hs,if_neg h,if_neg h2,if_neg h3,if_pos h4];exact⟨rfl,rfl,rfl,rfl,rfl,rfl⟩
 ·rw[zD7,hs,if_neg h,if_neg h2,if_neg h3,if_neg h4,if_pos h5];exact⟨rfl,rfl,rfl,rfl,rfl,rfl⟩
 ·rw[zD7,hs,if_neg h,if_neg h2,if_neg h3,if_neg h4,if_neg h5,if_pos h6];exact⟨rfl,rfl,rfl,rfl,rfl,rfl⟩
 ·rw[zD7,hs,if_neg h,if_neg h2,if_neg h3,if_neg h4,if_neg h5,if_neg h6];exact⟨rfl,rfl,rfl,rfl,rfl,rfl⟩
def zDR:zP:=⟨[(.rd,.agg [.int .i64,.list (.int .i64),.bool,.str,.str])],[.agg [.int .i64,.list (.int .i64),.bool,.str,.str]],true,fun ps=>(nth (nth ps 0).A 1).L.length≤1000,fun ps=>[(zCZ (nth ps 0).A).pv],fun _=>[]⟩
theorem zOU:yQ Try.prog 65 zDR:=by
 refine zf [0,1,2] [.cell 2 60] (zG (zD [])) zb Try.func65 rfl (by decide) rfl (by decide) rfl ?_
 intro ps hT hpre W hW
 simp only[zDR,TyA,Ty,Tys] at hT hpre
 obtain⟨_,_,rfl,⟨_,rfl,_,_,rfl,⟨st,rfl,hst⟩,_,_,rfl,⟨ag,rfl,hag,tag⟩,_,_,rfl,⟨pr,rfl⟩,_,_,rfl,⟨tx,rfl,htx⟩,_,_,rfl,⟨ut,rfl,hut⟩,rfl⟩,rfl⟩:=hT
 simp only[zF,zK,zBp,zCk,zAS] at hpre
 refine hW.vc [] _ _ ?_
 simp[-List.getD_eq_getElem?_getD,zDR,PR.pv,zCZ]
 omega
def zAc:zP:=⟨[(.rd,.agg [.int .i64,.list (.int .i64),.bool,.str,.str]),(.rd,.str)],[.agg [.int .i64,.list (.int .i64),.bool,.str,.str],.list (.agg [.int .i64,.int .i64,.bool,.list (.int .i64),.str])],true,fun ps=>zD4 (zCZ (nth ps 0).A)∧(nth ps 1).S.length≤100000,fun ps=>[(zAs (zCZ (nth ps 0).A) (nth ps 1).S []).1.pv,.list (zAs (zCZ (nth ps 0).A) (nth ps 1).S []).2],fun _=>[]⟩
set_option maxHeartbeats 1000000 in
theorem zLW:yQ Try.prog 52 zAc:=by
 refine zf [0,1,2,4,5,6,7] [.cell 4 60,.tmp 5] (zA (cs:=[]) zOR (zA (cs:=[]) zOU (zG (zD [])))) zb Try.func52 rfl (by decide) rfl (by decide) rfl ?_
 intro ps hT hpre W hW
 simp only[zAc,TyA,Ty,Tys] at hT hpre
 obtain⟨_,_,rfl,⟨_,rfl,_,_,rfl,⟨st,rfl,hst⟩,_,_,rfl,⟨ag,rfl,hag,tag⟩,_,_,rfl,⟨pr,rfl⟩,_,_,rfl,⟨tx,rfl,htx⟩,_,_,rfl,⟨ut,rfl,hut⟩,rfl⟩,_,_,rfl,⟨t,rfl,ht⟩,rfl⟩:=hT
 simp only[zF,zK,zBp,zCk,zAS,zCt] at hpre
 refine hW.vc [(6,[9],tkN [0,1,2,3,5,6,7] (tkM [8] (alN [4,9,10] .done)))] _ _ ?_
 simp[-List.getD_eq_getElem?_getD,zAc,zDR,zDO,PR.pv,zCZ]
 have hO:=hpre.1
 rw[zCZ] at hO
 simp only[zF,zK,zAS,zCk,zNj,zCt] at hO
 have a8:ag.length≤8:=hO.l
 refine⟨by omega,?_⟩
 refine hW.loopS _ _ _ [.bx 6 [.int .i64,.list (.int .i64),.bool,.str,.str,.list (.agg [.int .i64,.int .i64,.bool,.list (.int .i64),.str])],.sl 7 .dp (.int .i64)] (fun ys=>∃(i:Nat) (P:PR) (out:List PV),ys=[P.rv out,.int .i64 i]∧i≤t.length∧zD4 P∧out.length≤2*i∧zAs ⟨st,ag,pr,tx,ut⟩ t []=zAs P (t.drop i) out) (fun ys=>t.length - (nth ys 1).I.toNat) ?_ ?_
 ·simp[-List.getD_eq_getElem?_getD,zAc,zDR,zDO,PR.rv]
  exact⟨0,⟨st,ag,pr,tx,ut⟩,[],⟨⟨rfl,rfl,rfl,rfl,rfl,rfl⟩,rfl⟩,by omega,hO,by simp,rfl⟩
 ·rintro ys ⟨i,P,out,rfl,g0,g1,g2,g3⟩
  have w1:IntKind.i64.wrap ((i:Int)+1)=i+1:=zC (by omega)
  obtain⟨c,hc⟩:∃c,c=t.getD i 0:=⟨_,rfl⟩
  have hc2:=c.toNat_lt
  have w2:IntKind.i64.wrap (c.toNat:Int)=c.toNat:=zC (by omega)
  obtain⟨R,hR⟩:∃R,R=zAs ⟨st,ag,pr,tx,ut⟩ t []:=⟨_,rfl⟩
  rw[←hR] at g3
  have hG:=zL6 g1 (b:=c.toNat) ⟨by omega,by omega⟩
  have hl:=g1.l
  obtain⟨q1,q2,q3,q4,q5⟩:=P
  refine hW.vc [(6,[9],tkN [0,1,2,3,5,6,7] (tkM [8] (alN [4,9,10] .done)))] _ _ ?_
  simp[-List.getD_eq_getElem?_getD,zAc,zDR,zDO,PR.rv,PR.pv,zCZ,rvP,w1,←hc,w2,←hR]
  refine fun _=>⟨fun h=>⟨h,⟨by omega,g1,by omega⟩,⟨i+1,_,_,⟨⟨rfl,rfl,rfl,rfl,rfl,rfl⟩,rfl⟩,by omega,hG.1,?_,?_⟩,by omega⟩,fun h=>⟨by decide +kernel,Nat.le_trans hl (by omega),?_⟩⟩
  ·have:=hG.2.2
   rw[List.length_append];omega
  ·have e:t.drop i=c :: t.drop (i+1):=by
    rw[hc,List.drop_eq_getElem_cons h];simp[h]
   rw[g3,e,zAs]
  ·rw[g3,List.drop_eq_nil_of_le h];exact⟨⟨rfl,rfl,rfl,rfl,rfl⟩,rfl⟩
end
section
variable [ze]
theorem zIb{l m:List PV}(h:l.length=m.length)(hn:∀i,i < l.length→nth l i=nth m i):l=m:=
 List.ext_getElem h fun i h1 h2=>by rw[←zB9 h1,←zB9 h2];exact hn i h1
theorem zHF{l m:List PV}{i:Nat}:nth (l++m) i=if i < l.length then nth l i else nth m (i - l.length):=by
 unfold nth
 rw[List.getD_eq_getElem?_getD,List.getElem?_append]
 split<;>rfl
theorem zBN{l:List PV}{n i:Nat}:nth (l.drop n) i=nth l (n+i):=by
 unfold nth
 rw[List.getD_eq_getElem?_getD,List.getElem?_drop];rfl
theorem zBh{l:List PV}{n i:Nat}(h:i < n):nth (l.take n) i=nth l i:=by
 unfold nth
 rw[List.getD_eq_getElem?_getD,List.getElem?_take_of_lt h];rfl
theorem zHE{n i:Nat}{x:PV}(h:i < n):nth (List.replicate n x) i=x:=by
 rw[zB9 (by simpa using h)];simp
theorem zMi{l:List PV}{k i:Nat}{x:PV}(h:i < l.length):nth (l.set k x) i=if k=i then x else nth l i:=by
 rw[zB9 (by simpa using h),List.getElem_set]
 split
 ·rfl
 ·rw[zB9 h]
theorem zTJ{cs:List PV}{a:Nat}:zCE cs a a=cs:=by simp[zCE]
theorem zTK{cs:List PV}{a i:Nat}(h1:a≤i)(h2:i < cs.length):(zCE cs a i).set i blC=zCE cs a (i+1):=by
 have l1:=zBQ (cs:=cs) (a:=a) (b:=i) (by omega) h1
 have l2:=zBQ (cs:=cs) (a:=a) (b:=i+1) (by omega) (by omega)
 refine zIb (by rw[List.length_set,l1,l2]) fun j hj=>?_
 rw[List.length_set,l1] at hj
 rw[zMi (by omega)]
 simp only[zCE,zHF,zBN,List.length_take,List.length_replicate]
 by_cases c1:j < a
 ·rw[if_pos (show j < min a cs.length by omega),if_pos (show j < min a cs.length by omega),if_neg (by omega)]
 ·rw[if_neg (show ¬j < min a cs.length by omega),if_neg (show ¬j < min a cs.length by omega)]
  by_cases c2:i=j
  ·rw[if_pos c2,if_pos (by omega),zHE (by omega)]
  ·rw[if_neg c2]
   by_cases c3:j < i
   ·rw[if_pos (by omega),if_pos (by omega),zHE (by omega),zHE (by omega)]
   ·rw[if_neg (by omega),if_neg (by omega)];congr 1;omega
def shU(cs:List PV)(w lo i:Nat):List PV:=cs.take lo++((cs.drop (lo+w)).take (i - lo)++cs.drop i)
theorem zDm{cs:List PV}{w lo i:Nat}(h1:lo≤i)(h2:i+w≤cs.length):(shU cs w lo i).length=cs.length:=by
 simp only[shU,List.length_append,List.length_take,List.length_drop];omega
theorem zNv{cs:List PV}{w lo:Nat}:shU cs w lo lo=cs:=by simp[shU]
theorem zCq{cs:List PV}{w lo i j:Nat}(h1:lo≤i)(h2:i+w≤cs.length)(hj:j < cs.length):nth (shU cs w lo i) j=if j < lo then nth cs j else if j < i then nth cs (j+w) else nth cs j:=by
 simp only[shU,zHF,zBN,List.length_take,List.length_drop]
 by_cases c1:j < lo
 ·rw[if_pos (by omega),if_pos c1,zBh c1]
 ·rw[if_neg (by omega),if_neg c1]
  by_cases c2:j < i
  ·rw[if_pos (by omega),if_pos c2,zBh (by omega),zBN];congr 1;omega
  ·rw[if_neg (by omega),if_neg c2];congr 1;omega
theorem zNw{cs:List PV}{w lo i:Nat}(h1:lo≤i)(h2:i+1+w≤cs.length):(shU cs w lo i).set i (nth (shU cs w lo i) (i+w))=shU cs w lo (i+1):=by
 have l1:=zDm (cs:=cs) (w:=w) h1 (by omega)
 have l2:=zDm (cs:=cs) (w:=w) (i:=i+1) (lo:=lo) (by omega) (by omega)
 refine zIb (by rw[List.length_set,l1,l2]) fun j hj=>?_
 rw[List.length_set,l1] at hj
 rw[zMi (by omega),zCq h1 (by omega) (by omega),zCq h1 (by omega) hj,zCq (by omega) (by omega) hj]
 by_cases c:i=j
 ·subst c
  rw[if_pos rfl,if_neg (by omega),if_neg (by omega),if_neg (by omega),if_pos (by omega)]
 ·rw[if_neg c]
  by_cases c1:j < lo
  ·rw[if_pos c1,if_pos c1]
  ·rw[if_neg c1,if_neg c1]
   by_cases c2:j < i
   ·rw[if_pos c2,if_pos (by omega)]
   ·rw[if_neg c2,if_neg (by omega)]
theorem zNS{cs:List PV}{a b j:Nat}(h:b≤cs.length)(hab:a≤b)(hj:j < cs.length):nth (zCE cs a b) j=if j < a then nth cs j else if j < b then blC else nth cs j:=by
 simp only[zCE,zHF,zBN,List.length_take,List.length_replicate]
 by_cases c1:j < a
 ·rw[if_pos (by omega),if_pos c1,zBh c1]
 ·rw[if_neg (by omega),if_neg c1]
  by_cases c2:j < b
  ·rw[if_pos (by omega),if_pos c2,zHE (by omega)]
  ·rw[if_neg (by omega),if_neg c2];congr 1;omega
theorem zNq{cs:List PV}{w h a b:Nat}(hc:cs.length=h*w)(hb:b < h)(hab:a≤b):zCE (shU cs w (a*w) (b*w)) (b*w) ((b+1)*w)=upC cs w a b:=by
 obtain⟨q1,q2,q3,q4⟩:=zH3 (w:=w) hb hab
 have q5:(a+1)*w=a*w+w:=by rw[Nat.add_mul,Nat.one_mul]
 have l1:=zDm (cs:=cs) (w:=w) q1 (by omega)
 have l2:=zBQ (cs:=shU cs w (a*w) (b*w)) (a:=b*w) (b:=(b+1)*w) (by omega) (by omega)
 refine zIb (by rw[l2,l1,zL3 hc hb hab]) fun j hj=>?_
 rw[l2,l1] at hj
 rw[zNS (by omega) (by omega) (by omega),zCq q1 (by omega) hj]
 simp only[upC,zHF,zBN,List.length_take,List.length_drop,List.length_replicate]
 by_cases c1:j < a*w
 ·rw[if_pos (by omega),if_pos c1,if_pos (by omega),zBh c1]
 ·rw[if_neg c1,if_neg (show ¬j < min (a*w) cs.length by omega)]
  by_cases c2:j < b*w
  ·rw[if_pos c2,if_pos c2,if_pos (by omega),zBh (by omega),zBN];congr 1;omega
  ·simp only[if_neg c2]
   rw[if_neg (show ¬j - min (a*w) cs.length < min ((b - a)*w) (cs.length - (a+1)*w) by omega)]
   by_cases c3:j < (b+1)*w
   ·rw[if_pos c3,if_pos (by omega),zHE (by omega)]
   ·rw[if_neg c3,if_neg (by omega)];congr 1;omega
def shD(cs:List PV)(w hi j:Nat):List PV:=cs.take j++((cs.drop (j - w)).take (hi - j)++cs.drop hi)
theorem zFv{cs:List PV}{w hi j:Nat}(h1:j≤hi)(h2:hi≤cs.length):(shD cs w hi j).length=cs.length:=by
 simp only[shD,List.length_append,List.length_take,List.length_drop];omega
theorem zSW{cs:List PV}{w hi:Nat}:shD cs w hi hi=cs:=by simp[shD]
theorem zEm{cs:List PV}{w hi j i:Nat}(h0:w≤j)(h1:j≤hi)(h2:hi≤cs.length)(hi':i < cs.length):nth (shD cs w hi j) i=if i < j then nth cs i else if i < hi then nth cs (i - w) else nth cs i:=by
 simp only[shD,zHF,zBN,List.length_take,List.length_drop]
 by_cases c1:i < j
 ·rw[if_pos (by omega),if_pos c1,zBh c1]
 ·rw[if_neg (by omega),if_neg c1]
  by_cases c2:i < hi
  ·rw[if_pos (by omega),if_pos c2,zBh (by omega),zBN];congr 1;omega
  ·rw[if_neg (by omega),if_neg c2];congr 1;omega
theorem zSX{cs:List PV}{w hi j:Nat}(h0:w≤j)(h1:j+1≤hi)(h2:hi≤cs.length):(shD cs w hi (j+1)).set j (nth (shD cs w hi (j+1)) (j - w))=shD cs w hi j:=by
 have l1:=zFv (cs:=cs) (w:=w) h1 h2
 have l2:=zFv (cs:=cs) (w:=w) (j:=j) (hi:=hi) (by omega) h2
 refine zIb (by rw[List.length_set,l1,l2]) fun i hi'=>?_
 rw[List.length_set,l1] at hi'
 rw[zMi (by omega),zEm (by omega) h1 h2 (by omega),zEm (by omega) h1 h2 hi',zEm h0 (by omega) h2 hi']
 by_cases c:j=i
 ·subst c
  rw[if_pos rfl,if_pos (by omega),if_neg (by omega),if_pos (by omega)]
 ·rw[if_neg c]
  by_cases c1:i < j
  ·rw[if_pos (by omega),if_pos c1]
  ·rw[if_neg (by omega),if_neg c1]
theorem zS4{cs:List PV}{w h a b:Nat}(hc:cs.length=h*w)(hb:b < h)(hab:a≤b):zCE (shD cs w ((b+1)*w) ((a+1)*w)) (a*w) ((a+1)*w)=dnC cs w a b:=by
 obtain⟨q1,q2,q3,q4⟩:=zH3 (w:=w) hb hab
 have q5:(a+1)*w=a*w+w:=by rw[Nat.add_mul,Nat.one_mul]
 have l1:=zFv (cs:=cs) (w:=w) (hi:=(b+1)*w) (j:=(a+1)*w) (by omega) (by omega)
 have l2:=zBQ (cs:=shD cs w ((b+1)*w) ((a+1)*w)) (a:=a*w) (b:=(a+1)*w) (by omega) (by omega)
 refine zIb (by rw[l2,l1,zNO hc hb hab]) fun j hj=>?_
 rw[l2,l1] at hj
 rw[zNS (by omega) (by omega) (by omega),zEm (by omega) (by omega) (by omega) hj]
 simp only[dnC,zHF,zBN,List.length_take,List.length_drop,List.length_replicate]
 by_cases c1:j < a*w
 ·rw[if_pos c1,if_pos (by omega),if_pos (by omega),zBh c1]
 ·rw[if_neg c1,if_neg (show ¬j < min (a*w) cs.length by omega)]
  by_cases c2:j < (a+1)*w
  ·rw[if_pos c2,if_pos (by omega),zHE (by omega)]
  ·simp only[if_neg c2]
   rw[if_neg (show ¬j - min (a*w) cs.length < w by omega)]
   by_cases c3:j < (b+1)*w
   ·rw[if_pos c3,if_pos (by omega),zBh (by omega),zBN];congr 1;omega
   ·rw[if_neg c3,if_neg (by omega)];congr 1;omega
theorem zKI(cs:List PV)(c:PV):zFV (cs++[c])=zFV cs++zEn (nth c.A 0).I:=by simp[zFV]
theorem zHY:∀(cs:List PV) (c:PV),zIG (cs++[c])=if (nth c.A 0).I=32 then zIG cs else cs++[c]
 | [],c=>by simp only[List.nil_append,zIG];split<;>simp_all
 | x :: cs,c=>by
  rw[List.cons_append,zIG,zHY cs c]
  by_cases h:(nth c.A 0).I=32
  ·rw[if_pos h,if_pos h,zIG]
  ·rw[if_neg h,if_neg h,if_neg]
   rintro⟨q,_⟩;simp at q
theorem zL5:∀cs:List PV,∃r,cs=zIG cs++r
 | []=>⟨[],rfl⟩
 | c :: cs=>by
  obtain⟨r,hr⟩:=zL5 cs
  rw[zIG]
  split
  ·exact⟨c :: cs,rfl⟩
  ·exact⟨r,by rw[List.cons_append,←hr]⟩
theorem zL4(cs:List PV):(zFV cs).take (zFV (zIG cs)).length=zFV (zIG cs):=by
 obtain⟨r,hr⟩:=zL5 cs
 have e:zFV cs=zFV (zIG cs)++zFV r:=by
  conv=>lhs;rw[hr]
  simp[zFV]
 rw[e,List.take_left' rfl]
theorem zPo{cs:List PV}:(zFV cs).length≤4*cs.length:=by
 induction cs with
 | nil=>simp[zFV]
 | cons c cs ih=>
  have e:zFV (c :: cs)=zEn (nth c.A 0).I++zFV cs:=rfl
  have:=(zIM (r:=(nth c.A 0).I)).2
  rw[e,List.length_append,List.length_cons];omega
theorem zPq(cs:List PV):(zFV (zIG cs)).length≤(zFV cs).length:=by
 have:=congrArg List.length (zL4 cs)
 rw[List.length_take] at this;omega
theorem zMP(cs:List PV)(c:PV):zGt (cs++[c])=zGt cs++(nB (nth c.A 0).I 3++[yF (nth c.A 1).I]):=by simp[zGt]
theorem zOn{c:PV}(h:ceI c):zA0 (nth c.A 0).I=true:=by
 obtain⟨r,l,rfl,r1,r2,r3,r4,l1,l2⟩:=h
 simp only[cel,zBp,zF,zAS,zA0,Bool.and_eq_true,bne_iff_ne,Bool.not_eq_true',ne_eq]
 refine⟨⟨zER.2 ⟨r1,r2⟩,r3⟩,?_⟩
 cases hq:inB r 55296 57343 with
 | false=>rfl
 | true=>exact absurd (zER.1 hq) r4
end
section
variable [ze]
def zBb:zP:=⟨[(.rd,.int .i64)],[.list (.agg [.int .i64,.int .i64])],true,fun ps=>0≤(nth ps 0).I∧(nth ps 0).I≤10000,fun ps=>[.list (List.replicate (nth ps 0).I.toNat blC)],fun _=>[]⟩
theorem zLV:yQ Try.prog 51 zBb:=by
 refine zf [0,2,3,4] [.tmp 2] (zG (zD [])) zb Try.func51 rfl (by decide) rfl (by decide) rfl ?_
 intro ps hT hpre W hW
 simp only[zBb,TyA,Ty,Tys] at hT hpre
 obtain⟨_,_,rfl,⟨n,rfl,hn⟩,rfl⟩:=hT
 simp only[zF,zAS] at hpre
 refine hW.vc [] _ _ ?_
 simp[-List.reduceReplicate,-List.getD_eq_getElem?_getD,zBb]
 refine hW.loopS _ _ _ [.sl 3 .dp (.list (.agg [.int .i64,.int .i64])),.sl 4 .dp (.int .i64)] (fun ys=>∃i:Nat,ys=[.list (List.replicate i blC),.int .i64 i]∧i≤n.toNat) (fun ys=>n.toNat - (nth ys 1).I.toNat) ?_ ?_
 ·simp[-List.reduceReplicate,-List.getD_eq_getElem?_getD,zBb]
  exact⟨0,⟨rfl,rfl⟩,by omega⟩
 ·rintro ys ⟨i,rfl,g0⟩
  have w1:IntKind.i64.wrap ((i:Int)+1)=i+1:=zC (by omega)
  refine hW.vc [] _ _ ?_
  simp[-List.reduceReplicate,-List.getD_eq_getElem?_getD,zBb,w1]
  exact⟨fun h=>⟨by omega,fun _=>⟨⟨i+1,⟨(List.replicate_succ' (n:=i) (a:=blC)).symm,by omega⟩,by omega⟩,by omega⟩⟩,fun h=>by omega⟩
def zCg:zP:=⟨[(.rd,.int .i64),(.rd,.int .i64)],[.agg [.int .i64,.int .i64,.int .i64,.int .i64,.int .i64,.int .i64,.int .i64,.int .i64,.int .i64,.str,.list (.agg [.int .i64,.int .i64]),.list .str]],true,fun ps=>2≤(nth ps 0).I∧(nth ps 0).I≤24∧2≤(nth ps 1).I∧(nth ps 1).I≤10,fun ps=>[(zLM (nth ps 0).I (nth ps 1).I).pv],fun _=>[]⟩
theorem zKf:yQ Try.prog 27 zCg:=by
 refine zf [0,1,4] [.cell 4 56] (zA (cs:=[]) zLV (zG (zD []))) zb Try.func27 rfl (by decide) rfl (by decide) rfl ?_
 intro ps hT hpre W hW
 simp only[zCg,TyA,Ty,Tys] at hT hpre
 obtain⟨_,_,rfl,⟨w,rfl,hw⟩,_,_,rfl,⟨h,rfl,hh⟩,rfl⟩:=hT
 simp only[zF,zK,zAS] at hpre
 refine hW.vc [] _ _ ?_
 simp[-List.reduceReplicate,-List.getD_eq_getElem?_getD,zCg,zBb,SC.pv,zLM]
 have h1:2*2≤w*h:=Int.mul_le_mul hpre.1 hpre.2.2.1 (by omega) (by omega)
 have h2:w*h≤24*10:=Int.mul_le_mul hpre.2.1 hpre.2.2.2 (by omega) (by omega)
 rw[zC (n:=w*h) (by omega),zC (n:=h - 1) (by omega)]
 exact⟨⟨by omega,by omega⟩,rfl,rfl⟩
def zc:zP:=⟨[(.bx,.box [.int .i64,.int .i64,.int .i64,.int .i64,.int .i64,.int .i64,.int .i64,.int .i64,.int .i64,.str,.list (.agg [.int .i64,.int .i64]),.list .str]),(.rd,.int .i64),(.rd,.int .i64)],[],true,fun ps=>0≤(nth ps 1).I∧(nth ps 1).I≤(nth ps 2).I∧(nth ps 2).I≤(nth (nth ps 0).A 10).L.length∧(nth ps 2).I≤10000,fun _=>[],
 fun ps=>[SC.pv { zAw (nth ps 0).A with cs:=zCE (nth (nth ps 0).A 10).L (nth ps 1).I.toNat (nth ps 2).I.toNat }]⟩
theorem zJm:yQ Try.prog 87 zc:=by
 refine zf [0,1,2,6] [] (zG (zD [])) zb Try.func87 rfl (by decide) rfl (by decide) rfl ?_
 intro ps hT hpre W hW
 simp only[zc,TyA,Ty,Tys] at hT hpre
 obtain⟨_,_,rfl,⟨_,rfl,_,_,rfl,⟨w,rfl,hw⟩,_,_,rfl,⟨h,rfl,hh⟩,_,_,rfl,⟨x,rfl,hx⟩,_,_,rfl,⟨y,rfl,hy⟩,_,_,rfl,⟨look,rfl,hlook⟩,_,_,rfl,⟨top,rfl,htop⟩,_,_,rfl,⟨bot,rfl,hbot⟩,_,_,rfl,⟨sx,rfl,hsx⟩,_,_,rfl,⟨sy,rfl,hsy⟩,_,_,rfl,⟨tit,rfl,htit⟩,_,_,rfl,⟨cs,rfl,hcs,tcs⟩,_,_,rfl,⟨hist,rfl,hhist,thist⟩,rfl⟩,_,_,rfl,⟨a,rfl,ha⟩,_,_,rfl,⟨b,rfl,hb⟩,rfl⟩:=hT
 simp only[zF,zK,zBp,zCk,zAS] at hpre
 refine hW.vc [] _ _ ?_
 simp[-List.getD_eq_getElem?_getD,zc,SC.pv,zAw]
 refine hW.loopS _ _ _ [.bx 0 [.int .i64,.int .i64,.int .i64,.int .i64,.int .i64,.int .i64,.int .i64,.int .i64,.int .i64,.str,.list (.agg [.int .i64,.int .i64]),.list .str],.sl 6 .dp (.int .i64)] (fun ys=>∃i:Nat,ys=[SC.pv ⟨w,h,x,y,look,top,bot,sx,sy,tit,zCE cs a.toNat i,hist⟩,.int .i64 i]∧a.toNat≤i∧(i:Int)≤b) (fun ys=>b.toNat - (nth ys 1).I.toNat) ?_ ?_
 ·simp[-List.getD_eq_getElem?_getD,zc,SC.pv]
  exact⟨a.toNat,⟨zTJ.symm,by omega⟩,by omega,by omega⟩
 ·rintro ys ⟨i,rfl,g0,g1⟩
  have w1:IntKind.i64.wrap ((i:Int)+1)=i+1:=zC (by omega)
  refine hW.vc [] _ _ ?_
  simp[-List.getD_eq_getElem?_getD,zc,SC.pv,zAw,w1]
  refine⟨fun h=>⟨?_,⟨i+1,⟨zTK g0 (by omega),by omega⟩,by omega,by omega⟩,by omega⟩,fun h=>?_⟩
  ·rw[zBQ (by omega) g0];omega
  ·rw[show i=b.toNat by omega]
def zv:zP:=⟨[(.rd,.agg [.int .i64,.int .i64,.int .i64,.int .i64,.int .i64,.int .i64,.int .i64,.int .i64,.int .i64,.str,.list (.agg [.int .i64,.int .i64]),.list .str]),(.rd,.int .i64)],[.str],true,fun ps=>ScI (zAw (nth ps 0).A)∧0≤(nth ps 1).I∧(nth ps 1).I < (nth (nth ps 0).A 1).I,fun ps=>[.str (zFz (nth (nth ps 0).A 10).L (nth (nth ps 0).A 0).I.toNat (nth ps 1).I.toNat)],fun _=>[]⟩
theorem zKe:yQ Try.prog 99 zv:=by
 refine zf [0,1,2,4,5,6,7] [.tmp 4] (zA (cs:=[]) zOT (zG (zD []))) zb Try.func99 rfl (by decide) rfl (by decide) rfl ?_
 intro ps hT hpre W hW
 simp only[zv,TyA,Ty,Tys] at hT hpre
 obtain⟨_,_,rfl,⟨_,rfl,_,_,rfl,⟨w,rfl,hw⟩,_,_,rfl,⟨h,rfl,hh⟩,_,_,rfl,⟨x,rfl,hx⟩,_,_,rfl,⟨y,rfl,hy⟩,_,_,rfl,⟨look,rfl,hlook⟩,_,_,rfl,⟨top,rfl,htop⟩,_,_,rfl,⟨bot,rfl,hbot⟩,_,_,rfl,⟨sx,rfl,hsx⟩,_,_,rfl,⟨sy,rfl,hsy⟩,_,_,rfl,⟨tit,rfl,htit⟩,_,_,rfl,⟨cs,rfl,hcs,tcs⟩,_,_,rfl,⟨hist,rfl,hhist,thist⟩,rfl⟩,_,_,rfl,⟨yy,rfl,hyy⟩,rfl⟩:=hT
 simp only[zF,zK,zBp,zCk,zAS] at hpre
 refine hW.vc [] _ _ ?_
 simp[-List.getD_eq_getElem?_getD,zv,zDQ]
 obtain⟨hS,y0,y1⟩:=hpre
 have hn:=hS.nn
 have hw:=hS.w
 have hh:=hS.h
 simp only[zAw,zF,zK,zAS,zCk] at hn hw hh
 obtain⟨Y,hY⟩:∃Y:Nat,yy=Y:=⟨yy.toNat,by omega⟩
 obtain⟨V,hV⟩:∃V:Nat,w=V:=⟨w.toNat,by omega⟩
 subst hY hV
 have hc:∀e∈cs,ceI e:=hS.c
 obtain⟨row,hrow⟩:∃row,row=(cs.drop (Y*V)).take V:=⟨_,rfl⟩
 have m1:(Y+1)*V≤h.toNat*V:=Nat.mul_le_mul_right _ (by omega)
 have m2:(Y+1)*V=Y*V+V:=by rw[Nat.add_mul,Nat.one_mul]
 have hl:row.length=V:=by rw[hrow,List.length_take,List.length_drop];simp only[Int.toNat_natCast] at hn;omega
 have hx:∀i,i < V→nth row i=nth cs (Y*V+i):=fun i hi=>by rw[hrow,zBh hi,zBN]
 have hR:zFz cs V Y=zFV (zIG row):=by rw[zFz,hrow]
 refine hW.loopS _ _ _ [.sl 5 .dp .str,.sl 6 .dp (.int .i64),.sl 7 .dp (.int .i64)] (fun ys=>∃i:Nat,ys=[.str (zFV (row.take i)),.int .i64 (zFV (zIG (row.take i))).length,.int .i64 i]∧i≤V) (fun ys=>V - (nth ys 2).I.toNat) ?_ ?_
 ·simp[-List.getD_eq_getElem?_getD,zv,zDQ]
  exact⟨0,⟨by simp[zFV],by simp[zFV,zIG],rfl⟩,by omega⟩
 ·rintro ys ⟨i,rfl,g0⟩
  have w1:IntKind.i64.wrap ((i:Int)+1)=i+1:=zC (by omega)
  have m3:(Y:Int)*V≤240:=by have:Y*V≤240:=by { have:=Nat.mul_le_mul (show Y≤10 by omega) (show V≤24 by omega);omega };exact_mod_cast this
  have m4:(0:Int)≤(Y:Int)*V:=Int.mul_nonneg (by omega) (by omega)
  have w2:IntKind.i64.wrap ((Y:Int)*V)=(Y:Int)*V:=zC (by omega)
  obtain⟨p,hp⟩:∃p:Nat,p=Y*V+i:=⟨_,rfl⟩
  have w3:IntKind.i64.wrap ((Y:Int)*V+i)=(p:Int):=by rw[zC (by omega),hp];simp
  have tl:=zPo (cs:=row.take i)
  have tk:(row.take i).length≤24:=by rw[List.length_take];omega
  refine hW.vc [] _ _ ?_
  simp[-List.getD_eq_getElem?_getD,zv,zDQ,w1,w2,w3]
  have hp2:i < V→p < cs.length:=fun h=>by simp only[Int.toNat_natCast] at hn;omega
  have hcx:i < V→nth cs p=nth row i:=fun h=>by rw[hx i h,hp]
  have hci:i < V→ceI (nth row i):=fun h=>by rw[←hcx h];exact hc _ (yJ (hp2 h))
  have htk:i < V→row.take (i+1)=row.take i++[nth row i]:=fun h=>zAe (by omega)
  refine⟨fun h=>?_,fun h=>?_⟩
  ·rw[hcx h]
   have rl:=(zIM (r:=(nth (nth row i).A 0).I)).2
   have t1:zFV (row.take (i+1))=zFV (row.take i)++zEn (nth (nth row i).A 0).I:=by rw[htk h,zKI]
   refine⟨hp2 h,fun _=>⟨zOn (hci h),by omega,hp2 h,fun _=>⟨fun h2 _=>⟨⟨i+1,⟨t1.symm,?_,by omega⟩,by omega⟩,by omega⟩,fun h2=>⟨⟨i+1,⟨t1.symm,?_,by omega⟩,by omega⟩,by omega⟩⟩⟩⟩
   ·rw[htk h,zHY,if_neg h2,zKI,List.length_append];omega
   ·rw[htk h,zHY,if_pos h2]
  ·have e:row.take i=row:=List.take_of_length_le (by omega)
   rw[e,hR]
   exact⟨zPq row,zL4 row⟩
def zAb:zP:=⟨[(.rd,.agg [.int .i64,.int .i64,.int .i64,.int .i64,.int .i64,.int .i64,.int .i64,.int .i64,.int .i64,.str,.list (.agg [.int .i64,.int .i64]),.list .str]),(.rd,.int .i64)],[.str],true,fun ps=>ScI (zAw (nth ps 0).A)∧0≤(nth ps 1).I∧(nth ps 1).I < (nth (nth ps 0).A 1).I,fun ps=>[.str (zGt (((nth (nth ps 0).A 10).L.drop ((nth ps 1).I.toNat*(nth (nth ps 0).A 0).I.toNat)).take (nth (nth ps 0).A 0).I.toNat))],fun _=>[]⟩
theorem zLU:yQ Try.prog 30 zAb:=by
 refine zf [0,1,2,4,5,6,7] [.tmp 4] (zA (cs:=[]) zCb (zG (zD []))) zb Try.func30 rfl (by decide) rfl (by decide) rfl ?_
 intro ps hT hpre W hW
 simp only[zAb,TyA,Ty,Tys] at hT hpre
 obtain⟨_,_,rfl,⟨_,rfl,_,_,rfl,⟨w,rfl,hw⟩,_,_,rfl,⟨h,rfl,hh⟩,_,_,rfl,⟨x,rfl,hx⟩,_,_,rfl,⟨y,rfl,hy⟩,_,_,rfl,⟨look,rfl,hlook⟩,_,_,rfl,⟨top,rfl,htop⟩,_,_,rfl,⟨bot,rfl,hbot⟩,_,_,rfl,⟨sx,rfl,hsx⟩,_,_,rfl,⟨sy,rfl,hsy⟩,_,_,rfl,⟨tit,rfl,htit⟩,_,_,rfl,⟨cs,rfl,hcs,tcs⟩,_,_,rfl,⟨hist,rfl,hhist,thist⟩,rfl⟩,_,_,rfl,⟨yy,rfl,hyy⟩,rfl⟩:=hT
 simp only[zF,zK,zBp,zCk,zAS] at hpre
 refine hW.vc [(6,[4,9],tkN [0,1,2,5] (tkM [6] (.alt 3 (.alt 4 (tkN [7] (alN [8,9,10] .done)) (alS 7 (.alt 4 (alN [8,9,10] .done) (alN [8,4,9,10] .done)))) (alS 7 (.alt 3 (.alt 4 (alN [8,9,10] .done) (alN [8,4,9,10] .done)) (alN [8,3,4,9,10] .done))))))] _ _ ?_
 simp[-List.getD_eq_getElem?_getD,zAb,zs]
 obtain⟨hS,y0,y1⟩:=hpre
 have hn:=hS.nn
 have hw:=hS.w
 have hh:=hS.h
 simp only[zAw,zF,zK,zAS,zCk] at hn hw hh
 obtain⟨Y,hY⟩:∃Y:Nat,yy=Y:=⟨yy.toNat,by omega⟩
 obtain⟨V,hV⟩:∃V:Nat,w=V:=⟨w.toNat,by omega⟩
 subst hY hV
 have hc:∀e∈cs,ceI e:=hS.c
 obtain⟨row,hrow⟩:∃row,row=(cs.drop (Y*V)).take V:=⟨_,rfl⟩
 have m1:(Y+1)*V≤h.toNat*V:=Nat.mul_le_mul_right _ (by omega)
 have m2:(Y+1)*V=Y*V+V:=by rw[Nat.add_mul,Nat.one_mul]
 have hl:row.length=V:=by rw[hrow,List.length_take,List.length_drop];simp only[Int.toNat_natCast] at hn;omega
 have hx:∀i,i < V→nth row i=nth cs (Y*V+i):=fun i hi=>by rw[hrow,zBh hi,zBN]
 refine hW.loopS _ _ _ [.sl 5 .dp (.list (.int .u8)),.sl 6 .dp (.int .i64)] (fun ys=>∃i:Nat,ys=[.list (zW (zGt (row.take i))),.int .i64 i]∧i≤V) (fun ys=>V - (nth ys 1).I.toNat) ?_ ?_
 ·simp[-List.getD_eq_getElem?_getD,zAb,zs]
  exact⟨0,⟨by simp[zGt,zW],rfl⟩,by omega⟩
 ·rintro ys ⟨i,rfl,g0⟩
  have w1:IntKind.i64.wrap ((i:Int)+1)=i+1:=zC (by omega)
  have m3:(Y:Int)*V≤240:=by have:Y*V≤240:=by { have:=Nat.mul_le_mul (show Y≤10 by omega) (show V≤24 by omega);omega };exact_mod_cast this
  have m4:(0:Int)≤(Y:Int)*V:=Int.mul_nonneg (by omega) (by omega)
  have w2:IntKind.i64.wrap ((Y:Int)*V)=(Y:Int)*V:=zC (by omega)
  obtain⟨p,hp⟩:∃p:Nat,p=Y*V+i:=⟨_,rfl⟩
  have w3:IntKind.i64.wrap ((Y:Int)*V+i)=(p:Int):=by rw[zC (by omega),hp];simp
  refine hW.vc [(6,[4,9],tkN [0,1,2,5] (tkM [6] (.alt 3 (.alt 4 (tkN [7] (alN [8,9,10] .done)) (alS 7 (.alt 4 (alN [8,9,10] .done) (alN [8,4,9,10] .done)))) (alS 7 (.alt 3 (.alt 4 (alN [8,9,10] .done) (alN [8,4,9,10] .done)) (alN [8,3,4,9,10] .done))))))] _ _ ?_
  simp[-List.getD_eq_getElem?_getD,zAb,zs,w1,w2,w3]
  have hp2:i < V→p < cs.length:=fun h=>by simp only[Int.toNat_natCast] at hn;omega
  have hcx:i < V→nth cs p=nth row i:=fun h=>by rw[hx i h,hp]
  have htk:i < V→row.take (i+1)=row.take i++[nth row i]:=fun h=>zAe (by omega)
  have hbl:(zW (zGt (row.take i))).length≤96:=by
   rw[yb]
   have q:=(zJN (cs:=row.take i) fun c hcm=>hc c (List.mem_of_mem_drop (List.mem_of_mem_take (by rw[hrow] at hcm;exact List.mem_of_mem_take hcm)))).2
   rw[q,List.length_take];omega
  refine⟨fun h=>?_,fun h=>?_⟩
  ·obtain⟨r,l,hrl,r1,r2,r3,r4,l1,l2⟩:=hc _ (yJ (hp2 h))
   have hb3:(zW (nB (nth (nth cs p).A 0).I 3)).length=3:=by rw[yb,yn]
   have hA:(nth (nth cs p).A 0).I=r∧(nth (nth cs p).A 1).I=l:=by rw[hrl];exact⟨rfl,rfl⟩
   refine⟨hp2 h,fun _ _ _ _=>⟨by decide +kernel,by omega,by omega,fun _=>⟨by omega,fun _=>⟨⟨i+1,⟨?_,by omega⟩,by omega⟩,by omega⟩⟩⟩⟩
   rw[htk h,zMP,zA5,zA5,←hcx h,hA.1,hA.2]
   congr 2
   have wl:IntKind.u8.wrap l=l:=by simp[IntKind.wrap,IntKind.signed,IntKind.bits];omega
   have bl:=zA6 l
   simp only[zW,List.map_cons,List.map_nil,wl]
   congr 1
   rw[bl,Int.emod_eq_of_lt (by omega) (by omega)]
  ·rw[yZ,List.take_of_length_le (by omega),hrow]
end
end Go.Proofs.Ytdmbfkooebldcaa
