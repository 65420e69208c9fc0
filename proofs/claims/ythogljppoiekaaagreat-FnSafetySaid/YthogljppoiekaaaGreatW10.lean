/-
  Part 10: contracts of functions, and the laws by which they are proved.
  Conditions: none.
-/
import Derived.Test.YthogljppoiekaaaGreatW6
import Derived.Test.YthogljppoiekaaaGreatW7
import Derived.Test.YthogljppoiekaaaGreatW8
set_option linter.unusedVariables false
set_option linter.unusedSimpArgs false
set_option linter.unusedSectionVars false
set_option maxRecDepth 100000
namespace Go.Proofs.YthogljppoiekaaaGreat
section
variable [zS]
theorem zTx(x:UInt8)(n:Int):zGl (n*256+x.toNat)=x:=by
 have h:=x.toNat_lt
 have e:(n*256+(x.toNat:Int)) % 256=x.toNat:=by omega
 simp[zGl,e]
theorem zXu(n:Int)(k:Nat):nB n (k+1)=nB (n / 256) k++[zGl n]:=by
 simp only[nB,List.range_succ,List.map_append,List.map_cons,List.map_nil]
 congr 1
 ·refine List.map_congr_left fun i hi=>?_
  have h:i < k:=List.mem_range.1 hi
  have e:k+1 - 1 - i=(k - 1 - i)+1:=by omega
  rw[e,Int.pow_succ,Int.mul_comm,←Int.ediv_ediv_of_nonneg (by omega)]
 ·simp
theorem zXv:∀{k:Nat} {l:List UInt8},l.length=k→nB (zB6 l) k=l
 | 0,l,h=>by have:=List.eq_nil_of_length_eq_zero h;subst this;rfl
 | k+1,l,h=>by
  have h0:l≠[]:=by intro e;subst e;simp at h
  have h1:=List.dropLast_concat_getLast h0
  rw[←h1,zNN,zXu,zTx]
  have h2:=(l.getLast h0).toNat_lt
  have e:(zB6 l.dropLast*256+((l.getLast h0).toNat:Int)) / 256=zB6 l.dropLast:=by omega
  rw[e,zXv (by simp[h])]
def zPk:Nat→List UInt8→Option (List PV × List UInt8)
 | 0,t=>some ([],t)
 | n+1,t=>if t.length < 2∨20000 < zB6 (t.take 2)∨(t.length:Int) < 2+zB6 (t.take 2) then none
  else (zPk n (t.drop (2+(zB6 (t.take 2)).toNat))).map fun x=>(.str ((t.drop 2).take (zB6 (t.take 2)).toNat) :: x.1,x.2)
def rdF(b:List UInt8):Option (List PV × List UInt8):=if b=[]∨60 < (b.getD 0 0).toNat then none else zPk (b.getD 0 0).toNat (b.drop 1)
def rdI(b:List UInt8):List PV × Bool:=if 65536 < b.length then ([],false) else match rdF b with | none=>([],false) | some (es,r)=>(es,r.isEmpty)
def rdS(b:List UInt8):List PV × Bool:=match rdF b with | none=>([],false) | some (es,r)=>if r=[] then (es,true) else ([],false)
theorem zVX:∀(n:Nat) (t:List UInt8) (es:List PV) (r:List UInt8),zPk n t=some (es,r)→es.length=n∧t=(es.flatMap fun e=>nB e.S.length 2++e.S)++r
 | 0,t,es,r,h=>by
  simp only[zPk,Option.some.injEq,Prod.mk.injEq] at h
  obtain⟨rfl,rfl⟩:=h
  simp
 | n+1,t,es,r,h=>by
  rw[zPk] at h
  split at h
  ·cases h
  ·rename_i h1
   simp only[Option.map_eq_some_iff,Prod.mk.injEq] at h
   obtain⟨⟨es',r'⟩,h2,rfl,rfl⟩:=h
   obtain⟨h3,h4⟩:=zVX n _ _ _ h2
   refine⟨by simp[h3],?_⟩
   have hn:0≤zB6 (t.take 2):=(zLb _ _ rfl).1
   obtain⟨m,hm⟩:=Int.eq_ofNat_of_zero_le hn
   rw[hm] at h1 h4 ⊢
   rw[Int.toNat_natCast] at h4 ⊢
   have e0:((t.drop 2).take m).length=m:=by rw[List.length_take,List.length_drop];omega
   simp only[List.flatMap_cons,zEW,e0]
   have e1:nB m 2=t.take 2:=by
    rw[←hm];exact zXv (by rw[List.length_take];omega)
   rw[e1,List.append_assoc,List.append_assoc,←h4,←List.drop_drop]
   rw[List.take_append_drop,List.take_append_drop]
theorem zbJ{b:List UInt8}{es:List PV}{r:List UInt8}(h:rdF b=some (es,r)):es.length≤60∧b=zCM es++r:=by
 unfold rdF at h
 split at h
 ·cases h
 ·rename_i h1
  obtain⟨h2,h3⟩:=zVX _ _ _ _ h
  have h0:b≠[]:=fun e=>h1 (.inl e)
  refine⟨by rw[h2];have:=fun e=>h1 (.inr e);omega,?_⟩
  unfold zCM
  rw[List.cons_append,←h3,h2]
  cases b with
  | nil=>exact absurd rfl h0
  | cons x b=>
   have:=zTx x 0
   rw[Int.zero_mul,Int.zero_add] at this
   simp[this]
def zFu:zJ:=⟨[(.rd,.str)],[.list .str,.bool],true,fun _=>True,fun ps=>[.list (rdI (nth ps 0).S).1,.bool (rdI (nth ps 0).S).2],fun _=>[]⟩
theorem zTS:zh Tryz.prog 173 zFu:=by
 refine zP [0,2,3,4,5,6,22,23] [.tmp 2,.tmp 3] (zA (cs:=[]) zMg (zD (zB []))) mixed Tryz.func173 rfl (by decide) rfl (by decide) rfl ?_
 intro ps hT hpre W hW
 simp only[zFu,TyA,Ty,Tys] at hT hpre
 obtain⟨_,_,rfl,⟨b,rfl,hb⟩,rfl⟩:=hT
 refine hW.vc [] _ _ ?_
 simp[-List.getD_eq_getElem?_getD,zFu,zB5,zA3,zA3]
 have hb8:=(b.getD 0 0).toNat_lt
 refine⟨fun h=>⟨h,List.length_pos_iff.2 h⟩,fun _=>⟨fun h=>?_,fun h1 h2 h3=>⟨by have:=List.length_pos_iff.2 h1;omega,List.length_pos_iff.2 h1,?_⟩⟩⟩
 ·by_cases h65:65536 < b.length
  ·simp[rdI,h65]
  ·have hF:rdF b=none:=if_pos (by rcases h with (h | h) | h<;>first | exact .inl h | (right;omega))
   simp[rdI,hF]
 have hF:rdF b=zPk (b.getD 0 0).toNat (b.drop 1):=if_neg (by rintro(h | h);exact h1 h;omega)
 have hI:rdI b=match zPk (b.getD 0 0).toNat (b.drop 1) with | none=>([],false) | some (es,r)=>(es,r.isEmpty):=by
  rw[rdI,if_neg (by omega),hF]
 refine hW.loopS _ _ _ [.sl 4 .dp (.list .str),.sl 5 .dp .str,.sl 23 .dp (.int .u8)] (fun ys=>∃(acc:List PV) (rest:List UInt8) (i:Nat),ys=[.list acc,.str rest,.int .u8 i]∧i≤(b.getD 0 0).toNat∧acc.length=i∧rest.length≤65536∧zPk (b.getD 0 0).toNat (b.drop 1)=(zPk ((b.getD 0 0).toNat - i) rest).map fun x=>(acc++x.1,x.2)) (fun ys=>(b.getD 0 0).toNat - (nth ys 2).I.toNat) ?_ ?_
 ·simp[-List.getD_eq_getElem?_getD,zFu,zB5,zA3,zA3]
  refine⟨[],_,0,⟨rfl,rfl,rfl⟩,by omega,rfl,by simp;omega,?_⟩
  rw[List.take_of_length_le (by simp)]
  simp
 ·rintro ys ⟨acc,rest,i,rfl,g1,g2,g3,g4⟩
  refine hW.vc [] _ _ ?_
  simp[-List.getD_eq_getElem?_getD,zFu,zB5,zA3,zA3]
  have hn:0≤zB6 (rest.take 2)∧zB6 (rest.take 2) < 72057594037927936:=by
   have:=zK3 (l:=rest.take 2) (by rw[List.length_take];omega) 2
   rwa[List.take_take,Nat.min_self] at this
  rw[zC (n:=2+zB6 (List.take 2 rest)) (by omega)]
  have hw8:i < (b.getD 0 0).toNat→IntKind.u8.wrap ((i:Int)+1)=((i+1:Nat):Int):=fun h=>by rw[zVM (by omega)];omega
  refine⟨fun g5 g6=>?_,fun g5=>?_⟩
  ·have hstep:(b.getD 0 0).toNat - i=((b.getD 0 0).toNat - (i+1))+1:=by omega
   rw[hstep,zPk] at g4
   rw[hw8 g5]
   have bad:(rest.length < 2∨20000 < zB6 (rest.take 2)∨(rest.length:Int) < 2+zB6 (rest.take 2))→(rdI b).1=[]∧(rdI b).2=false:=fun h=>by
    rw[if_pos h] at g4;rw[hI,g4];simp
   refine⟨fun g7=>bad (.inl (by omega)),fun g7=>⟨by omega,by omega,fun _=>⟨fun g8=>bad (.inr g8),fun g8 g9=>⟨by omega,by omega,fun _=>⟨by omega,?_,by omega⟩⟩⟩⟩⟩
   have e1:(2+zB6 (rest.take 2)).toNat=2+(zB6 (rest.take 2)).toNat:=by omega
   rw[if_neg (by omega)] at g4
   refine⟨_,_,i+1,⟨rfl,rfl,rfl⟩,by omega,by simp[g2],by simp;omega,?_⟩
   have e2:List.take (rest.length - (2+(zB6 (rest.take 2)).toNat)) (List.drop (2+(zB6 (rest.take 2)).toNat) rest)=List.drop (2+(zB6 (rest.take 2)).toNat) rest:=List.take_of_length_le (by simp)
   rw[e1,Nat.add_sub_cancel_left,e2]
   simpa[Option.map_map,Function.comp_def] using g4
  ·have:i=(b.getD 0 0).toNat:=by omega
   rw[this,Nat.sub_self,zPk] at g4
   rw[hI,g4];simp
def zJ1:zJ:=⟨[(.rd,.str)],[.list .str,.bool],true,fun ps=>(nth ps 0).S.length≤65536,fun ps=>[.list (rdS (nth ps 0).S).1,.bool (rdS (nth ps 0).S).2],fun _=>[]⟩
theorem zYA:zh Tryz.prog 201 zJ1:=by
 refine zP [0,2,3,4,5,6,7] [.tmp 2,.tmp 3] (zA (cs:=[]) zUn (zD (zB []))) mixed Tryz.func201 rfl (by decide) rfl (by decide) rfl ?_
 intro ps hT hpre W hW
 simp only[zJ1,TyA,Ty,Tys] at hT hpre
 obtain⟨_,_,rfl,⟨b,rfl,hb⟩,rfl⟩:=hT
 simp only[zE,zEW] at hpre
 refine hW.vc [] _ _ ?_
 simp[-List.getD_eq_getElem?_getD,zJ1,zA3]
 have hb8:=(b.getD 0 0).toNat_lt
 refine⟨fun h=>⟨h,List.length_pos_iff.2 h⟩,fun h=>?_,fun h1 h2=>⟨List.length_pos_iff.2 h1,?_⟩⟩
 ·have hF:rdF b=none:=if_pos (by rcases h with h | h<;>first | exact .inl h | (right;omega))
  simp[rdS,hF]
 have hF:rdF b=zPk (b.getD 0 0).toNat (b.drop 1):=if_neg (by rintro(h | h);exact h1 h;omega)
 have hI:rdS b=match zPk (b.getD 0 0).toNat (b.drop 1) with | none=>([],false) | some (es,r)=>if r=[] then (es,true) else ([],false):=by
  rw[rdS,hF]
 refine hW.loopS _ _ _ [.sl 4 .dp (.list .str),.sl 5 .dp (.int .i64),.sl 6 .dp (.int .i64)] (fun ys=>∃(acc:List PV) (at' i:Nat),ys=[.list acc,.int .i64 at',.int .i64 ((b.getD 0 0).toNat - i:Nat)]∧i≤(b.getD 0 0).toNat∧acc.length=i∧at'≤b.length∧zPk (b.getD 0 0).toNat (b.drop 1)=(zPk ((b.getD 0 0).toNat - i) (b.drop at')).map fun x=>(acc++x.1,x.2)) (fun ys=>(nth ys 2).I.toNat) ?_ ?_
 ·simp[-List.getD_eq_getElem?_getD,zJ1,zA3]
  refine⟨[],1,0,⟨rfl,rfl,by rw[zC (by omega),Nat.sub_zero]⟩,by omega,rfl,by have:=List.length_pos_iff.2 h1;omega,by simp⟩
 ·rintro ys ⟨acc,at',i,rfl,g1,g2,g3,g4⟩
  refine hW.vc [] _ _ ?_
  simp[-List.getD_eq_getElem?_getD,zJ1,zA3]
  have a1:IntKind.i64.wrap ((at':Int)+2)=(at'+2:Nat):=by rw[zC (by omega)];omega
  have a2:(((at'+2:Nat):Int)).toNat - at'=2:=by omega
  have hn:0≤zB6 ((b.drop at').take 2)∧zB6 ((b.drop at').take 2) < 72057594037927936:=by
   have:=zK3 (l:=(b.drop at').take 2) (by rw[List.length_take];omega) 2
   rwa[List.take_take,Nat.min_self] at this
  have hd:(b.drop at').length=b.length - at':=List.length_drop
  have hd2:(b.drop at').drop 2=b.drop (at'+2):=by rw[List.drop_drop]
  rw[a1,a2]
  generalize hL:zB6 ((b.drop at').take 2)=L at *
  obtain⟨m,rfl⟩:=Int.eq_ofNat_of_zero_le hn.1
  have a3:IntKind.i64.wrap (((at'+2:Nat):Int)+(m:Int))=(at'+2+m:Nat):=by rw[zC (by omega)];omega
  have a5:(((at'+2+m:Nat):Int)).toNat - (((at'+2:Nat):Int)).toNat=m:=by omega
  have a4:IntKind.i64.wrap ((at':Int)+IntKind.i64.wrap (2+(m:Int)))=(at'+(2+m):Nat):=by rw[zC (n:=2+(m:Int)) (by omega),zC (by omega)];omega
  rw[a3,a4,a5]
  refine⟨fun g5 _=>?_,fun g5 _=>?_⟩
  ·have hstep:(b.getD 0 0).toNat - i=((b.getD 0 0).toNat - (i+1))+1:=by omega
   rw[hstep,zPk,hL,hd,Int.toNat_natCast] at g4
   have bad:(b.length - at' < 2∨20000 < (m:Int)∨((b.length - at':Nat):Int) < 2+(m:Int))→(rdS b).1=[]∧(rdS b).2=false:=fun h=>by
    rw[if_pos h] at g4;rw[hI,g4];simp
   refine⟨fun g7=>bad (.inl (by omega)),fun g7=>⟨by omega,by omega,fun _=>⟨fun g8=>bad (.inr (by omega)),fun g8 g9=>⟨by omega,by omega,fun _=>⟨⟨_,_,i+1,⟨rfl,rfl,?_⟩,by omega,by simp[g2],by omega,?_⟩,?_⟩⟩⟩⟩⟩
   ·rw[zC (by omega)];omega
   ·rw[if_neg (by omega),List.drop_drop,List.drop_drop] at g4
    rw[Int.toNat_natCast]
    simpa[Option.map_map,Function.comp_def] using g4
   ·rw[zC (by omega)];omega
  ·have:i=(b.getD 0 0).toNat:=by omega
   rw[this,Nat.sub_self,zPk] at g4
   have hl:b.drop at'=[]↔b.length=at':=by rw[List.drop_eq_nil_iff];omega
   refine⟨fun g6=>?_,fun g6=>?_⟩
   ·have:¬b.drop at'=[]:=by rw[hl];omega
    rw[hI,g4];simp only[Option.map_some,this,if_false];simp
   ·have:b.drop at'=[]:=by rw[hl];omega
    rw[hI,g4];simp only[Option.map_some,this,if_true];simp
def zC6:Nat→List UInt8→List PV
 | 0,_=>[]
 | n+1,t=>.int .i64 (zB6 (t.take 3) - 1) :: zC6 n (t.drop 3)
theorem zK1:∀(n:Nat) (t:List UInt8),(zC6 n t).length=n
 | 0,_=>rfl
 | n+1,t=>by simp[zC6,zK1 n]
def zE6:zJ:=⟨[(.rd,.str)],[.list (.int .i64)],true,fun ps=>(nth ps 0).S.length≤1048576,fun ps=>[.list (zC6 ((nth ps 0).S.length / 3) (nth ps 0).S)],fun _=>[]⟩
theorem zSL:zh Tryz.prog 205 zE6:=by
 refine zP [0,2,3] [.tmp 2] (zA (cs:=[]) zMg (zD (zB []))) mixed Tryz.func205 rfl (by decide) rfl (by decide) rfl ?_
 intro ps hT hpre W hW
 simp only[zE6,TyA,Ty,Tys] at hT hpre
 obtain⟨_,_,rfl,⟨b,rfl,hb⟩,rfl⟩:=hT
 simp only[zE,zEW] at hpre
 refine hW.vc [] _ _ ?_
 simp[-List.getD_eq_getElem?_getD,zE6,zB5,zA3,zA3]
 refine hW.loopS _ _ _ [.sl 3 .dp (.list (.int .i64)),.sl 0 .dp .str] (fun ys=>∃(acc:List PV) (rest:List UInt8),ys=[.list acc,.str rest]∧acc.length+rest.length≤b.length∧zC6 (b.length / 3) b=acc++zC6 (rest.length / 3) rest) (fun ys=>(nth ys 1).S.length) ?_ ?_
 ·simp[-List.getD_eq_getElem?_getD,zE6,zB5,zA3,zA3]
  exact⟨[],b,⟨rfl,rfl⟩,by simp,rfl⟩
 ·rintro ys ⟨acc,rest,rfl,g1,g2⟩
  refine hW.vc [] _ _ ?_
  simp[-List.getD_eq_getElem?_getD,zE6,zB5,zA3,zA3]
  have hn:0≤zB6 (rest.take 3)∧zB6 (rest.take 3) < 72057594037927936:=by
   have:=zK3 (l:=rest.take 3) (by rw[List.length_take];omega) 3
   rwa[List.take_take,Nat.min_self] at this
  refine fun _=>⟨fun g3=>⟨by omega,by omega,by omega,fun _=>⟨by omega,⟨_,_,⟨rfl,rfl⟩,by simp;omega,?_⟩,by omega⟩⟩,fun g3=>?_⟩
  ·have e2:List.take (rest.length - 3) (List.drop 3 rest)=List.drop 3 rest:=List.take_of_length_le (by simp)
   have e3:rest.length / 3=(rest.drop 3).length / 3+1:=by rw[List.length_drop];omega
   rw[e2,g2,e3,zC6,zC (by omega)]
   simp
  ·have e3:rest.length / 3=0:=by omega
   rw[g2,e3,zC6,List.append_nil]
def zKE(b:List UInt8)(n:Nat):List PV × Bool:=if b.length=3*n then (zC6 n b,true) else ([],false)
def zHg:zJ:=⟨[(.rd,.str),(.rd,.int .i64)],[.list (.int .i64),.bool],true,fun ps=>0≤(nth ps 1).I∧(nth ps 1).I≤1000,fun ps=>[.list (zKE (nth ps 0).S (nth ps 1).I.toNat).1,.bool (zKE (nth ps 0).S (nth ps 1).I.toNat).2],fun _=>[]⟩
theorem zSJ:zh Tryz.prog 175 zHg:=by
 refine zP [0,1,4,5] [.tmp 4,.tmp 5] (zA (cs:=[]) zSL (zD (zB []))) mixed Tryz.func175 rfl (by decide) rfl (by decide) rfl ?_
 intro ps hT hpre W hW
 simp only[zHg,TyA,Ty,Tys] at hT hpre
 obtain⟨_,_,rfl,⟨b,rfl,hb⟩,_,_,rfl,⟨k,rfl,hk⟩,rfl⟩:=hT
 simp only[zE,zF,yp] at hpre
 refine hW.vc [] _ _ ?_
 simp[-List.getD_eq_getElem?_getD,zHg,zE6]
 rw[zC (by omega)]
 refine fun _=>⟨fun h=>?_,fun h=>?_⟩
 ·rw[zKE,if_neg (by omega)];simp
 ·have e:b.length / 3=k.toNat:=by omega
  rw[zKE,if_pos (by omega),e]
  exact⟨by omega,rfl,rfl⟩
def zKM(b:List UInt8):List PV × Bool:=if b.length % 3=0 then (zC6 (b.length / 3) b,true) else ([],false)
def zDJ:zJ:=⟨[(.rd,.str)],[.list (.int .i64),.bool],true,fun ps=>(nth ps 0).S.length≤1048576,fun ps=>[.list (zKM (nth ps 0).S).1,.bool (zKM (nth ps 0).S).2],fun _=>[]⟩
theorem zOt:zh Tryz.prog 202 zDJ:=by
 refine zP [0,2,3,4,5] [.tmp 2,.tmp 3] (zA (cs:=[]) zUn (zD (zB []))) mixed Tryz.func202 rfl (by decide) rfl (by decide) rfl ?_
 intro ps hT hpre W hW
 simp only[zDJ,TyA,Ty,Tys] at hT hpre
 obtain⟨_,_,rfl,⟨b,rfl,hb⟩,rfl⟩:=hT
 simp only[zE,zEW] at hpre
 refine hW.vc [] _ _ ?_
 simp[-List.getD_eq_getElem?_getD,zDJ,zA3]
 have e1:((b.length:Int)).tmod 3=((b.length % 3:Nat):Int):=rfl
 rw[e1]
 refine fun _=>⟨fun h=>by rw[zKM,if_neg (by omega)];simp,fun h=>?_⟩
 refine hW.loopS _ _ _ [.sl 4 .dp (.list (.int .i64)),.sl 5 .dp (.int .i64)] (fun ys=>∃(acc:List PV) (i:Nat),ys=[.list acc,.int .i64 (3*i:Nat)]∧3*i≤b.length∧acc.length=i∧zC6 (b.length / 3) b=acc++zC6 (b.length / 3 - i) (b.drop (3*i))) (fun ys=>b.length - (nth ys 1).I.toNat) ?_ ?_
 ·simp[-List.getD_eq_getElem?_getD,zDJ,zA3]
  exact⟨[],0,⟨rfl,rfl⟩,by simp,rfl,by simp⟩
 ·rintro ys ⟨acc,i,rfl,g1,g2,g3⟩
  refine hW.vc [] _ _ ?_
  simp[-List.getD_eq_getElem?_getD,zDJ,zA3]
  have a1:IntKind.i64.wrap (3*(i:Int)+3)=(3*i+3:Nat):=by rw[zC (by omega)];omega
  have a2:(((3*i+3:Nat):Int)).toNat - (3*(i:Int)).toNat=3:=by omega
  have a3:(3*(i:Int)).toNat=3*i:=by omega
  rw[a1,a2,a3]
  have hn:0≤zB6 ((b.drop (3*i)).take 3)∧zB6 ((b.drop (3*i)).take 3) < 72057594037927936:=by
   have:=zK3 (l:=(b.drop (3*i)).take 3) (by rw[List.length_take];omega) 3
   rwa[List.take_take,Nat.min_self] at this
  refine fun _=>⟨fun g4=>⟨by omega,by omega,by omega,fun _=>⟨⟨_,i+1,⟨rfl,by omega⟩,by omega,by simp[g2],?_⟩,by omega⟩⟩,fun g4=>?_⟩
  ·have e3:b.length / 3 - i=(b.length / 3 - (i+1))+1:=by omega
   rw[g3,e3,zC6,zC (by omega),List.drop_drop]
   simp[Nat.mul_add]
  ·have e3:b.length / 3 - i=0:=by omega
   rw[e3,zC6,List.append_nil] at g3
   rw[zKM,if_pos (by omega),g3]
   exact⟨rfl,rfl⟩
theorem zVW:∀(n:Nat) (t:List UInt8) (es:List PV) (r:List UInt8),zPk n t=some (es,r)→∀e∈es,e.S.length≤20000
 | 0,t,es,r,h=>by
  simp only[zPk,Option.some.injEq,Prod.mk.injEq] at h
  obtain⟨rfl,rfl⟩:=h
  simp
 | n+1,t,es,r,h=>by
  rw[zPk] at h
  split at h
  ·cases h
  ·rename_i h1
   simp only[Option.map_eq_some_iff,Prod.mk.injEq] at h
   obtain⟨⟨es',r'⟩,h2,rfl,rfl⟩:=h
   have h3:=zVW n _ _ _ h2
   intro e he
   rcases List.mem_cons.1 he with rfl | he
   ·rw[zEW,List.length_take];omega
   ·exact h3 e he
theorem zZP{b:List UInt8}(h:(rdS b).2=true):rdF b=some ((rdS b).1,[]):=by
 unfold rdS at h ⊢
 split at h
 ·cases h
 ·rename_i es r hF
  split at h
  ·rename_i hr;subst hr;simp[hF]
  ·cases h
theorem zXV{b:List UInt8}(h:(rdS b).2=true):(rdS b).1.length≤60∧b=zCM (rdS b).1∧∀e∈(rdS b).1,e.S.length≤20000:=by
 have h1:=zZP h
 obtain⟨h2,h3⟩:=zbJ h1
 refine⟨h2,by simpa using h3,?_⟩
 unfold rdF at h1
 split at h1
 ·cases h1
 ·exact zVW _ _ _ _ h1
end
end Go.Proofs.YthogljppoiekaaaGreat
