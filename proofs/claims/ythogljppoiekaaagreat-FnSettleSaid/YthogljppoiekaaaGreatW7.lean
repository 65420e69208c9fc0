/-
  Part 7: contracts of functions, and the laws by which they are proved.
  Conditions: none.
-/
import Derived.Test.YthogljppoiekaaaGreatW5
set_option linter.unusedVariables false
set_option linter.unusedSimpArgs false
set_option linter.unusedSectionVars false
set_option maxRecDepth 100000
namespace Go.Proofs.YthogljppoiekaaaGreat
section
variable [zS]
def zGl(x:Int):UInt8:=UInt8.ofNat (x % 256).toNat
theorem zOS(x:Int):((zGl x).toNat:Int)=x % 256:=by
 have h1:=Int.emod_nonneg x (show(256:Int)≠0 by omega)
 have h2:=Int.emod_lt_of_pos x (show(0:Int) < 256 by omega)
 unfold zGl
 rw[UInt8.toNat_ofNat',Nat.mod_eq_of_lt (by omega)]
 omega
theorem zLV(x:Int):IntKind.u8.wrap x=(zGl x).toNat:=by
 rw[zOS];simp[IntKind.wrap,IntKind.signed,IntKind.bits]
def nB(n:Int)(k:Nat):List UInt8:=(List.range k).map fun i=>zGl (n / 256 ^ (k - 1 - i))
theorem zFB(n:Int)(k:Nat):(nB n k).length=k:=by simp[nB]
theorem zbT{n:Int}{k i:Nat}(h:i < k):(nB n k).take (i+1)=(nB n k).take i++[zGl (n / 256 ^ (k - 1 - i))]:=by
 rw[List.take_succ_eq_append_getElem (by rw[zFB];exact h)];simp[nB]
theorem zbU{n:Int}{k i:Nat}(h:i < k):(nB n k).drop i=zGl (n / 256 ^ (k - 1 - i)) :: (nB n k).drop (i+1):=by
 rw[List.drop_eq_getElem_cons (by rw[zFB];exact h)];simp[nB]
theorem zCo(l:List UInt8):(zAN l).length=l.length:=by simp[zAN]
theorem zFf(l m:List UInt8):zAN (l++m)=zAN l++zAN m:=by simp[zAN]
theorem zU5(b:UInt8):zAN [b]=[.int .u8 b.toNat]:=rfl
theorem zCW(l:List UInt8):zFD (zAN l)=l:=by
 simp only[zFD,zAN,List.map_map]
 conv=>rhs;rw[←List.map_id l]
 exact List.map_congr_left fun b _=>by simp[yp]
theorem shr8{n:Int}{i:Nat}(h:0≤n)(hi:i≤7):zam .i64 n (8*i:Nat)=n / 256 ^ i:=by
 unfold zam
 have e:min (((8*i:Nat):Int).toNat) IntKind.i64.bits=8*i:=by
  have:IntKind.i64.bits=64:=rfl
  rw[this,Int.toNat_natCast];omega
 rw[e,Int.fdiv_eq_ediv_of_nonneg _ (Int.pow_nonneg (by omega)),Int.pow_mul]
 rfl
def zAO:zJ:=⟨[(.rd,.int .i64),(.rd,.int .i64)],[.str],true,fun ps=>0≤(nth ps 0).I∧0≤(nth ps 1).I∧(nth ps 1).I≤8,fun ps=>[.str (nB (nth ps 0).I (nth ps 1).I.toNat)],fun _=>[]⟩
theorem zOC:zh Tryz.prog 224 zAO:=by
 refine zP [0,1,4,5,6] [.tmp 4] (zD (zB [])) mixed Tryz.func224 rfl (by decide) rfl (by decide) rfl ?_
 intro ps hT hpre W hW
 simp only[zAO,TyA,Ty,Tys] at hT hpre
 obtain⟨_,_,rfl,⟨n,rfl,hn⟩,_,_,rfl,⟨k,rfl,hk⟩,rfl⟩:=hT
 simp only[zE,zF,yp] at hpre
 obtain⟨hp1,hp2,hp3⟩:=hpre
 obtain⟨m,rfl⟩:=Int.eq_ofNat_of_zero_le hp2
 rw[zHR] at hn
 refine hW.vc [] _ _ ?_
 simp[-List.getD_eq_getElem?_getD,zAO]
 refine⟨by omega,hW.loopS _ _ _ [.sl 0 .dp (.int .i64),.sl 5 .dp (.list (.int .u8)),.sl 6 .dp (.int .i64)] (fun ys=>∃j:Nat,ys=[.int .i64 (n / 256 ^ (m - j)),.list (List.replicate j (.int .u8 0)++(zAN (nB n m)).drop j),.int .i64 (j - 1)]∧j≤m) (fun ys=>((nth ys 2).I+1).toNat) ?_ ?_⟩
 ·simp[-List.getD_eq_getElem?_getD,zAO]
  refine⟨m,⟨by simp,by rw[List.drop_eq_nil_of_le (by rw[zCo,zFB];omega),List.append_nil],by rw[zC (by omega)]⟩,by omega⟩
 ·rintro ys ⟨j,rfl,h1⟩
  refine hW.vc [] _ _ ?_
  simp[-List.getD_eq_getElem?_getD,zAO]
  rw[zCo,zFB]
  refine⟨fun h2=>⟨⟨h2,by omega⟩,by omega,⟨j - 1,⟨?_,?_,by rw[zC (by omega)];omega⟩,by omega⟩,by rw[zC (by omega)];omega⟩,fun h2=>?_⟩
  ·have e:m - (j - 1)=(m - j)+1:=by omega
   have:=shr8 (n:=n / 256 ^ (m - j)) (i:=1) (Int.ediv_nonneg hp1 (Int.pow_nonneg (by omega))) (by omega)
   rw[e,Int.pow_succ,←Int.ediv_ediv_of_nonneg (Int.pow_nonneg (by omega))]
   simpa using this
  ·have h3:(zAN (nB n m)).drop (j - 1)=.int .u8 (zGl (n / 256 ^ (m - j))).toNat :: (zAN (nB n m)).drop j:=by
    have h4:=zbU (n:=n) (show j - 1 < m by omega)
    have e1:m - 1 - (j - 1)=m - j:=by omega
    have e2:j - 1+1=j:=by omega
    rw[e1,e2] at h4
    simp only[zAN,←List.map_drop,h4,List.map_cons]
   have h5:List.replicate j (PV.int IntKind.u8 0)=List.replicate (j - 1) (PV.int IntKind.u8 0)++[PV.int IntKind.u8 0]:=by
    have:j=(j - 1)+1:=by omega
    rw[this,List.replicate_succ'];simp
   rw[h3,zLV,h5,List.append_assoc,List.set_append_right _ _ (by simp),List.length_replicate,Nat.sub_self]
   rfl
  ·have:j=0:=by omega
   subst this
   simp[zCW]
def zCn:zJ:=⟨[(.rd,.int .i64),(.rd,.int .i64)],[.list (.int .u8)],true,fun ps=>0≤(nth ps 0).I∧0≤(nth ps 1).I∧(nth ps 1).I≤7,fun ps=>[.list (zAN (nB (nth ps 0).I (nth ps 1).I.toNat))],fun _=>[]⟩
theorem zMe:zh Tryz.prog 211 zCn:=by
 refine zP [0,1,4,5,6] [.tmp 4] (zD (zB [])) mixed Tryz.func211 rfl (by decide) rfl (by decide) rfl ?_
 intro ps hT hpre W hW
 simp only[zCn,TyA,Ty,Tys] at hT hpre
 obtain⟨_,_,rfl,⟨n,rfl,hn⟩,_,_,rfl,⟨k,rfl,hk⟩,rfl⟩:=hT
 simp only[zE,zF,yp] at hpre
 obtain⟨hp1,hp2,hp3⟩:=hpre
 obtain⟨m,rfl⟩:=Int.eq_ofNat_of_zero_le hp2
 rw[zHR] at hn
 refine hW.vc [] _ _ ?_
 simp[-List.getD_eq_getElem?_getD,zCn]
 refine hW.loopS _ _ _ [.sl 5 .dp (.list (.int .u8)),.sl 6 .dp (.int .i64)] (fun ys=>∃j:Nat,ys=[.list (zAN ((nB n m).take (m - j))),.int .i64 (j - 1)]∧j≤m) (fun ys=>((nth ys 1).I+1).toNat) ?_ ?_
 ·simp[-List.getD_eq_getElem?_getD,zCn]
  refine⟨m,⟨by simp[zAN],by rw[zC (by omega)]⟩,by omega⟩
 ·rintro ys ⟨j,rfl,h1⟩
  refine hW.vc [] _ _ ?_
  simp[-List.getD_eq_getElem?_getD,zCn]
  refine⟨fun h2=>?_,fun h2=>?_⟩
  ·have e0:(8*((j:Int) - 1))=((8*(j - 1):Nat):Int):=by omega
   have e1:IntKind.u64.wrap (IntKind.i64.wrap (8*((j:Int) - 1)))=((8*(j - 1):Nat):Int):=by
    rw[zC (by omega),e0]
    simp[IntKind.wrap,IntKind.signed,IntKind.bits];omega
   rw[e1,shr8 hp1 (by omega),zLV,zC (by omega),zCo,List.length_take,zFB]
   refine⟨by omega,by omega,fun _=>⟨⟨j - 1,⟨?_,by omega⟩,by omega⟩,by omega⟩⟩
   have h4:=zbT (n:=n) (show m - j < m by omega)
   have e2:m - 1 - (m - j)=j - 1:=by omega
   have e3:m - j+1=m - (j - 1):=by omega
   rw[e2,e3] at h4
   rw[h4,zFf,zU5]
  ·have:j=0:=by omega
   subst this
   rw[Nat.sub_zero,List.take_of_length_le (by rw[zFB];omega)]
def zdv(b:Bool):Int:=if b then 1 else 0
def zQk:zJ:=⟨[(.rd,.bool)],[.int .i64],true,fun _=>True,fun ps=>[.int .i64 (zdv (nth ps 0).B)],fun _=>[]⟩
def zJA:zJ:=zQk
theorem zZe:zh Tryz.prog 181 zJA:=by
 refine zP [0,2] [.tmp 2] (zD (zB [])) mixed Tryz.func181 rfl (by decide) rfl (by decide) rfl ?_
 intro ps hT hpre W hW
 simp only[zJA,TyA,Ty,Tys] at hT hpre
 simp only[zQk,TyA,Ty,Tys] at hT
 obtain⟨_,_,rfl,⟨b,rfl⟩,rfl⟩:=hT
 refine hW.vc [] _ _ ?_
 cases b<;>simp[-List.getD_eq_getElem?_getD,zJA,zQk,zdv]
def zD4(es:List PV):List UInt8:=es.flatMap fun e=>nB (e.I+1) 3
theorem zRV{es:List PV}{i:Nat}(h:i < es.length):zD4 (es.take (i+1))=zD4 (es.take i)++nB ((nth es i).I+1) 3:=by
 rw[zd h];simp[zD4]
theorem zCF:∀(es:List PV),(zD4 es).length=3*es.length
 | []=>rfl
 | e :: es=>by
  have:=zCF es
  simp only[zD4,List.flatMap_cons,List.length_append,zFB,List.length_cons] at this ⊢
  omega
def zBX:zJ:=⟨[(.rd,.list (.int .i64))],[.list (.int .u8)],true,fun ps=>(nth ps 0).L.length≤1048576∧∀e∈(nth ps 0).L,-1≤e.I∧e.I≤1073741824,fun ps=>[.list (zAN (zD4 (nth ps 0).L))],fun _=>[]⟩
theorem zTV:zh Tryz.prog 179 zBX:=by
 refine zP [0,2,3,4] [.tmp 2] (zA (cs:=[]) zMe (zD (zB []))) mixed Tryz.func179 rfl (by decide) rfl (by decide) rfl ?_
 intro ps hT hpre W hW
 simp only[zBX,TyA,Ty,Tys] at hT hpre
 obtain⟨_,_,rfl,⟨es,rfl,hes,tes⟩,rfl⟩:=hT
 simp only[zE,zAA] at hpre
 obtain⟨hp1,hp2⟩:=hpre
 refine hW.vc [] _ _ ?_
 simp[-List.getD_eq_getElem?_getD,zBX,zCn]
 refine hW.loopS _ _ _ [.sl 3 .dp (.list (.int .u8)),.sl 4 .dp (.int .i64)] (fun ys=>∃i:Nat,ys=[.list (zAN (zD4 (es.take i))),.int .i64 i]∧i≤es.length) (fun ys=>es.length - (nth ys 1).I.toNat) ?_ ?_
 ·simp[-List.getD_eq_getElem?_getD,zBX,zCn]
  exact⟨0,⟨by simp[zD4,zAN],rfl⟩,by omega⟩
 ·rintro ys ⟨i,rfl,h1⟩
  refine hW.vc [] _ _ ?_
  simp[-List.getD_eq_getElem?_getD,zBX,zCn]
  refine fun _=>⟨fun h2=>⟨h2,fun _=>?_⟩,fun h2=>by rw[List.take_of_length_le h2]⟩
  have h3:=hp2 _ (zb h2)
  rw[zC (n:=(nth es i).I+1) (by omega),zC (n:=(i:Int)+1) (by omega),zCo,zCo,zFB,zCF,List.length_take]
  exact⟨by omega,by omega,fun _=>⟨⟨i+1,⟨by rw[zRV h2,zFf],by omega⟩,by omega⟩,by omega⟩⟩
def zCM(es:List PV):List UInt8:=zGl es.length :: es.flatMap fun e=>nB e.S.length 2++e.S
theorem zOm{es:List PV}{i:Nat}(n:Int)(h:i < es.length):(es.take (i+1)).flatMap (fun e=>nB e.S.length 2++e.S)=(es.take i).flatMap (fun e=>nB e.S.length 2++e.S)++(nB (nth es i).S.length 2++(nth es i).S):=by
 rw[zd h];simp
theorem zSU{k:Nat}:∀{es:List PV},(∀e∈es,e.S.length≤k)→(es.flatMap fun e=>nB e.S.length 2++e.S).length≤es.length*(k+2)
 | [],_=>by simp
 | e :: es,h=>by
  have h1:=zSU (es:=es) fun x hx=>h x (by simp[hx])
  have h2:=h e (by simp)
  simp only[List.flatMap_cons,List.length_append,zFB,List.length_cons,Nat.add_mul] at h1 ⊢
  omega
def zB3:zJ:=⟨[(.rd,.list .str)],[.list (.int .u8)],true,fun ps=>(nth ps 0).L.length≤1000∧∀e∈(nth ps 0).L,e.S.length≤1048576,fun ps=>[.list (zAN (zCM (nth ps 0).L))],fun _=>[]⟩
theorem zUp:zh Tryz.prog 178 zB3:=by
 refine zP [0,2,3,4] [.tmp 2] (zA (cs:=[]) zMe (zD (zB []))) mixed Tryz.func178 rfl (by decide) rfl (by decide) rfl ?_
 intro ps hT hpre W hW
 simp only[zB3,TyA,Ty,Tys] at hT hpre
 obtain⟨_,_,rfl,⟨es,rfl,hes,tes⟩,rfl⟩:=hT
 simp only[zE,zAA] at hpre
 obtain⟨hp1,hp2⟩:=hpre
 refine hW.vc [(5,[7,12],tkN [0,1,2,3,4,5,8,9] (.alt 6 (.alt 7 (tkN [10,11] (alN [12,13] .done)) (alS 10 (.alt 7 (tkN [11] (alN [12,13] .done)) (alN [11,7,12,13] .done)))) (alS 10 (.alt 6 (.alt 7 (tkN [11] (alN [12,13] .done)) (alN [11,7,12,13] .done)) (alN [11,6,7,12,13] .done)))))] _ _ ?_
 simp[-List.getD_eq_getElem?_getD,zB3,zCn]
 refine fun h1=>hW.loopS _ _ _ [.sl 3 .dp (.list (.int .u8)),.sl 4 .dp (.int .i64)] (fun ys=>∃i:Nat,ys=[.list (zAN (zGl es.length :: (es.take i).flatMap fun e=>nB e.S.length 2++e.S)),.int .i64 i]∧i≤es.length) (fun ys=>es.length - (nth ys 1).I.toNat) ?_ ?_
 ·simp[-List.getD_eq_getElem?_getD,zB3,zCn]
  exact⟨0,⟨by simp[zAN,zLV],rfl⟩,by omega⟩
 ·rintro ys ⟨i,rfl,h2⟩
  refine hW.vc [(5,[7,12],tkN [0,1,2,3,4,5,8,9] (.alt 6 (.alt 7 (tkN [10,11] (alN [12,13] .done)) (alS 10 (.alt 7 (tkN [11] (alN [12,13] .done)) (alN [11,7,12,13] .done)))) (alS 10 (.alt 6 (.alt 7 (tkN [11] (alN [12,13] .done)) (alN [11,7,12,13] .done)) (alN [11,6,7,12,13] .done)))))] _ _ ?_
  simp[-List.getD_eq_getElem?_getD,zB3,zCn]
  refine fun _=>⟨fun h3=>?_,fun h3=>by rw[List.take_of_length_le h3];rfl⟩
  have hA:(zAN (zGl es.length :: (es.take i).flatMap fun e=>nB e.S.length 2++e.S)).length≤1100000000:=by
   rw[zCo,List.length_cons]
   have:=zSU (k:=1048576) (es:=es.take i) fun e he=>hp2 e (List.mem_of_mem_take he)
   rw[List.length_take,Nat.min_eq_left h2] at this
   omega
  have hB:(zAN (nB ((nth es i).S.length:Int) 2)).length=2:=by rw[zCo,zFB]
  have hS:(zAN (nth es i).S).length≤1048576:=by rw[zCo];exact hp2 _ (zb h3)
  rw[zC (n:=(i:Int)+1) (by omega)]
  generalize hX:zAN (zGl es.length :: (es.take i).flatMap fun e=>nB e.S.length 2++e.S)=X at *
  have hfin:(∃i_1:Nat,(X++(zAN (nB ((nth es i).S.length:Int) 2)++zAN (nth es i).S)=zAN (zGl es.length :: (es.take i_1).flatMap fun e=>nB e.S.length 2++e.S)∧(i:Int)+1=i_1)∧i_1≤es.length)∧es.length - ((i:Int)+1).toNat < es.length - i:=by
   refine⟨⟨i+1,⟨?_,by omega⟩,by omega⟩,by omega⟩
   rw[←hX,zOm 0 h3,←zFf,←zFf,List.cons_append]
  exact⟨by decide +kernel,h3,fun _ _=>⟨⟨by omega,fun _=>⟨h3,fun _=>⟨by omega,fun _=>hfin⟩⟩⟩,h3,⟨by omega,fun _=>⟨h3,fun _=>⟨by omega,fun _=>hfin⟩⟩⟩,h3,fun _=>⟨by omega,fun _=>⟨by omega,fun _=>hfin⟩⟩⟩⟩
end
end Go.Proofs.YthogljppoiekaaaGreat
