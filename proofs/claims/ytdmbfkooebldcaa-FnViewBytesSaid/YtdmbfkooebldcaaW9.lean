/-
  Part 9: contracts of functions, and the laws by which they are proved.
  Conditions: none.
-/
import Derived.Test.YtdmbfkooebldcaaW7
import Derived.Test.YtdmbfkooebldcaaW8
set_option linter.unusedVariables false
set_option linter.unusedSimpArgs false
set_option linter.unusedSectionVars false
set_option maxRecDepth 100000
namespace Go.Proofs.Ytdmbfkooebldcaa
section
variable [ze]
theorem zIM{r:Int}:1≤(zEn r).length∧(zEn r).length≤4:=by
 unfold zEn zLF
 split
 ·simp
 ·split
  ·simp
  ·split<;>simp
theorem zLb{r:Int}(h:zA0 r=true):32≤r∧r≤1114111∧(r < 55296∨57343 < r):=by
 simp[zA0,inB] at h
 omega
def zDQ:zP:=⟨[(.rd,.int .i64)],[.str],true,fun ps=>zA0 (nth ps 0).I=true,fun ps=>[.str (zEn (nth ps 0).I)],fun _=>[]⟩
theorem zOT:yQ Try.prog 100 zDQ:=by
 refine zf [0,2] [.tmp 2] (zG (zD [])) zb Try.func100 rfl (by decide) rfl (by decide) rfl ?_
 intro ps hT hpre W hW
 simp only[zDQ,TyA,Ty,Tys] at hT hpre
 obtain⟨_,_,rfl,⟨r,rfl,hr⟩,rfl⟩:=hT
 simp only[zF,zAS] at hpre
 obtain⟨q1,q2,q3⟩:=zLb hpre
 refine hW.vc [] _ _ ?_
 simp[-List.getD_eq_getElem?_getD,zDQ]
 have d0:∀k:Int,r.tdiv k=r / k:=fun k=>Int.tdiv_eq_ediv_of_nonneg (by omega)
 have m0:∀k:Int,r.tmod k=r % k:=fun k=>Int.tmod_eq_emod_of_nonneg (by omega)
 have m1:∀k:Int,0≤k→(IntKind.i64.wrap (r / k)).tmod 64=r / k % 64:=fun k hk=>by
  have h1:r / k≤r:=Int.ediv_le_self _ (by omega)
  have h2:0≤r / k:=Int.ediv_nonneg (by omega) hk
  rw[zC (by omega),Int.tmod_eq_emod_of_nonneg h2]
 have w1:∀n:Int,0≤n→n≤255→IntKind.u8.wrap (IntKind.i64.wrap n)=n:=fun n h1 h2=>by rw[zC (by omega),zLw ⟨h1,h2⟩]
 simp only[d0,m0,m1 64 (by omega),m1 4096 (by omega)]
 refine⟨fun h=>?_,fun h=>⟨fun h2=>⟨rfl,?_⟩,fun h2=>⟨fun h3=>⟨rfl,?_⟩,fun h3=>⟨rfl,?_⟩⟩⟩⟩
 ·rw[zLw (by omega),zEn,zLF,if_pos h];rfl
 ·rw[zC (n:=r / 64) (by omega),w1 _ (by omega) (by omega),w1 _ (by omega) (by omega),zEn,zLF,if_neg (by omega),if_pos h2];rfl
 ·rw[zC (n:=r / 4096) (by omega),w1 _ (by omega) (by omega),w1 _ (by omega) (by omega),w1 _ (by omega) (by omega),zEn,zLF,if_neg (by omega),if_neg (by omega),if_pos h3];rfl
 ·rw[zC (n:=r / 262144) (by omega),w1 _ (by omega) (by omega),w1 _ (by omega) (by omega),w1 _ (by omega) (by omega),w1 _ (by omega) (by omega),zEn,zLF,if_neg (by omega),if_neg (by omega),if_neg (by omega)];rfl
end
section
variable [ze]
def yF(x:Int):UInt8:=UInt8.ofNat (x % 256).toNat
theorem zA6(x:Int):((yF x).toNat:Int)=x % 256:=by
 have h1:=Int.emod_nonneg x (show(256:Int)≠0 by omega)
 have h2:=Int.emod_lt_of_pos x (show(0:Int) < 256 by omega)
 unfold yF
 rw[UInt8.toNat_ofNat',Nat.mod_eq_of_lt (by omega)]
 omega
theorem zDA(x:Int):IntKind.u8.wrap x=(yF x).toNat:=by
 rw[zA6];simp[IntKind.wrap,IntKind.signed,IntKind.bits]
def nB(n:Int)(k:Nat):List UInt8:=(List.range k).map fun i=>yF (n / 256 ^ (k - 1 - i))
theorem yn(n:Int)(k:Nat):(nB n k).length=k:=by simp[nB]
theorem zQD{n:Int}{k i:Nat}(h:i < k):(nB n k).take (i+1)=(nB n k).take i++[yF (n / 256 ^ (k - 1 - i))]:=by
 rw[List.take_succ_eq_append_getElem (by rw[yn];exact h)];simp[nB]
theorem zQF{n:Int}{k i:Nat}(h:i < k):(nB n k).drop i=yF (n / 256 ^ (k - 1 - i)) :: (nB n k).drop (i+1):=by
 rw[List.drop_eq_getElem_cons (by rw[yn];exact h)];simp[nB]
theorem yb(l:List UInt8):(zW l).length=l.length:=by simp[zW]
theorem zA5(l m:List UInt8):zW (l++m)=zW l++zW m:=by simp[zW]
theorem zJ1(b:UInt8):zW [b]=[.int .u8 b.toNat]:=rfl
theorem yZ(l:List UInt8):yL (zW l)=l:=by
 simp only[yL,zW,List.map_map]
 conv=>rhs;rw[←List.map_id l]
 exact List.map_congr_left fun b _=>by simp[zAS]
theorem shr8{n:Int}{i:Nat}(h:0≤n)(hi:i≤7):shrI .i64 n (8*i:Nat)=n / 256 ^ i:=by
 unfold shrI
 have e:min (((8*i:Nat):Int).toNat) IntKind.i64.bits=8*i:=by
  have:IntKind.i64.bits=64:=rfl
  rw[this,Int.toNat_natCast];omega
 rw[e,Int.fdiv_eq_ediv_of_nonneg _ (Int.pow_nonneg (by omega)),Int.pow_mul]
 rfl
def zU:zP:=⟨[(.rd,.int .i64),(.rd,.int .i64)],[.str],true,fun ps=>0≤(nth ps 0).I∧0≤(nth ps 1).I∧(nth ps 1).I≤8,fun ps=>[.str (nB (nth ps 0).I (nth ps 1).I.toNat)],fun _=>[]⟩
theorem zEv:yQ Try.prog 37 zU:=by
 refine zf [0,1,4,5,6] [.tmp 4] (zG (zD [])) zb Try.func37 rfl (by decide) rfl (by decide) rfl ?_
 intro ps hT hpre W hW
 simp only[zU,TyA,Ty,Tys] at hT hpre
 obtain⟨_,_,rfl,⟨n,rfl,hn⟩,_,_,rfl,⟨k,rfl,hk⟩,rfl⟩:=hT
 simp only[zF,zK,zAS] at hpre
 obtain⟨hp1,hp2,hp3⟩:=hpre
 obtain⟨m,rfl⟩:=Int.eq_ofNat_of_zero_le hp2
 rw[zQS] at hn
 refine hW.vc [] _ _ ?_
 simp[-List.getD_eq_getElem?_getD,zU]
 refine⟨by omega,hW.loopS _ _ _ [.sl 0 .dp (.int .i64),.sl 5 .dp (.list (.int .u8)),.sl 6 .dp (.int .i64)] (fun ys=>∃j:Nat,ys=[.int .i64 (n / 256 ^ (m - j)),.list (List.replicate j (.int .u8 0)++(zW (nB n m)).drop j),.int .i64 (j - 1)]∧j≤m) (fun ys=>((nth ys 2).I+1).toNat) ?_ ?_⟩
 ·simp[-List.getD_eq_getElem?_getD,zU]
  refine⟨m,⟨by simp,by rw[List.drop_eq_nil_of_le (by rw[yb,yn];omega),List.append_nil],by rw[zC (by omega)]⟩,by omega⟩
 ·rintro ys ⟨j,rfl,h1⟩
  refine hW.vc [] _ _ ?_
  simp[-List.getD_eq_getElem?_getD,zU]
  rw[yb,yn]
  refine⟨fun h2=>⟨⟨h2,by omega⟩,by omega,⟨j - 1,⟨?_,?_,by rw[zC (by omega)];omega⟩,by omega⟩,by rw[zC (by omega)];omega⟩,fun h2=>?_⟩
  ·have e:m - (j - 1)=(m - j)+1:=by omega
   have:=shr8 (n:=n / 256 ^ (m - j)) (i:=1) (Int.ediv_nonneg hp1 (Int.pow_nonneg (by omega))) (by omega)
   rw[e,Int.pow_succ,←Int.ediv_ediv_of_nonneg (Int.pow_nonneg (by omega))]
   simpa using this
  ·have h3:(zW (nB n m)).drop (j - 1)=.int .u8 (yF (n / 256 ^ (m - j))).toNat :: (zW (nB n m)).drop j:=by
    have h4:=zQF (n:=n) (show j - 1 < m by omega)
    have e1:m - 1 - (j - 1)=m - j:=by omega
    have e2:j - 1+1=j:=by omega
    rw[e1,e2] at h4
    simp only[zW,←List.map_drop,h4,List.map_cons]
   have h5:List.replicate j (PV.int IntKind.u8 0)=List.replicate (j - 1) (PV.int IntKind.u8 0)++[PV.int IntKind.u8 0]:=by
    have:j=(j - 1)+1:=by omega
    rw[this,List.replicate_succ'];simp
   rw[h3,zDA,h5,List.append_assoc,List.set_append_right _ _ (by simp),List.length_replicate,Nat.sub_self]
   rfl
  ·have:j=0:=by omega
   subst this
   simp[yZ]
def zs:zP:=⟨[(.rd,.int .i64),(.rd,.int .i64)],[.list (.int .u8)],true,fun ps=>0≤(nth ps 0).I∧0≤(nth ps 1).I∧(nth ps 1).I≤7,fun ps=>[.list (zW (nB (nth ps 0).I (nth ps 1).I.toNat))],fun _=>[]⟩
theorem zCb:yQ Try.prog 41 zs:=by
 refine zf [0,1,4,5,6] [.tmp 4] (zG (zD [])) zb Try.func41 rfl (by decide) rfl (by decide) rfl ?_
 intro ps hT hpre W hW
 simp only[zs,TyA,Ty,Tys] at hT hpre
 obtain⟨_,_,rfl,⟨n,rfl,hn⟩,_,_,rfl,⟨k,rfl,hk⟩,rfl⟩:=hT
 simp only[zF,zK,zAS] at hpre
 obtain⟨hp1,hp2,hp3⟩:=hpre
 obtain⟨m,rfl⟩:=Int.eq_ofNat_of_zero_le hp2
 rw[zQS] at hn
 refine hW.vc [] _ _ ?_
 simp[-List.getD_eq_getElem?_getD,zs]
 refine hW.loopS _ _ _ [.sl 5 .dp (.list (.int .u8)),.sl 6 .dp (.int .i64)] (fun ys=>∃j:Nat,ys=[.list (zW ((nB n m).take (m - j))),.int .i64 (j - 1)]∧j≤m) (fun ys=>((nth ys 1).I+1).toNat) ?_ ?_
 ·simp[-List.getD_eq_getElem?_getD,zs]
  refine⟨m,⟨by simp[zW],by rw[zC (by omega)]⟩,by omega⟩
 ·rintro ys ⟨j,rfl,h1⟩
  refine hW.vc [] _ _ ?_
  simp[-List.getD_eq_getElem?_getD,zs]
  refine⟨fun h2=>?_,fun h2=>?_⟩
  ·have e0:(8*((j:Int) - 1))=((8*(j - 1):Nat):Int):=by omega
   have e1:IntKind.u64.wrap (IntKind.i64.wrap (8*((j:Int) - 1)))=((8*(j - 1):Nat):Int):=by
    rw[zC (by omega),e0]
    simp[IntKind.wrap,IntKind.signed,IntKind.bits];omega
   rw[e1,shr8 hp1 (by omega),zDA,zC (by omega),yb,List.length_take,yn]
   refine⟨by omega,by omega,fun _=>⟨⟨j - 1,⟨?_,by omega⟩,by omega⟩,by omega⟩⟩
   have h4:=zQD (n:=n) (show m - j < m by omega)
   have e2:m - 1 - (m - j)=j - 1:=by omega
   have e3:m - j+1=m - (j - 1):=by omega
   rw[e2,e3] at h4
   rw[h4,zA5,zJ1]
  ·have:j=0:=by omega
   subst this
   rw[Nat.sub_zero,List.take_of_length_le (by rw[yn];omega)]
def zGo(b:Bool):Int:=if b then 1 else 0
def zC8:zP:=⟨[(.rd,.bool)],[.int .i64],true,fun _=>True,fun ps=>[.int .i64 (zGo (nth ps 0).B)],fun _=>[]⟩
theorem k_bit:yQ Try.prog 36 zC8:=by
 refine zf [0,2] [.tmp 2] (zG (zD [])) zb Try.func36 rfl (by decide) rfl (by decide) rfl ?_
 intro ps hT hpre W hW
 simp only[zC8,TyA,Ty,Tys] at hT hpre
 obtain⟨_,_,rfl,⟨b,rfl⟩,rfl⟩:=hT
 refine hW.vc [] _ _ ?_
 cases b<;>simp[-List.getD_eq_getElem?_getD,zC8,zGo]
def zDS:zP:=zC8
theorem zOV:yQ Try.prog 40 zDS:=by
 refine zf [0,2] [.tmp 2] (zG (zD [])) zb Try.func40 rfl (by decide) rfl (by decide) rfl ?_
 intro ps hT hpre W hW
 simp only[zDS,TyA,Ty,Tys] at hT hpre
 simp only[zC8,TyA,Ty,Tys] at hT
 obtain⟨_,_,rfl,⟨b,rfl⟩,rfl⟩:=hT
 refine hW.vc [] _ _ ?_
 cases b<;>simp[-List.getD_eq_getElem?_getD,zDS,zC8,zGo]
def zAy(es:List PV):List UInt8:=es.flatMap fun e=>nB (e.I+1) 3
theorem zHG{es:List PV}{i:Nat}(h:i < es.length):zAy (es.take (i+1))=zAy (es.take i)++nB ((nth es i).I+1) 3:=by
 rw[zAe h];simp[zAy]
theorem zAM:∀(es:List PV),(zAy es).length=3*es.length
 | []=>rfl
 | e :: es=>by
  have:=zAM es
  simp only[zAy,List.flatMap_cons,List.length_append,yn,List.length_cons] at this ⊢
  omega
def yi:zP:=⟨[(.rd,.list (.int .i64))],[.list (.int .u8)],true,fun ps=>(nth ps 0).L.length≤1048576∧∀e∈(nth ps 0).L,-1≤e.I∧e.I≤1073741824,fun ps=>[.list (zW (zAy (nth ps 0).L))],fun _=>[]⟩
theorem zIo:yQ Try.prog 39 yi:=by
 refine zf [0,2,3,4] [.tmp 2] (zA (cs:=[]) zCb (zG (zD []))) zb Try.func39 rfl (by decide) rfl (by decide) rfl ?_
 intro ps hT hpre W hW
 simp only[yi,TyA,Ty,Tys] at hT hpre
 obtain⟨_,_,rfl,⟨es,rfl,hes,tes⟩,rfl⟩:=hT
 simp only[zF,zCk] at hpre
 obtain⟨hp1,hp2⟩:=hpre
 refine hW.vc [] _ _ ?_
 simp[-List.getD_eq_getElem?_getD,yi,zs]
 refine hW.loopS _ _ _ [.sl 3 .dp (.list (.int .u8)),.sl 4 .dp (.int .i64)] (fun ys=>∃i:Nat,ys=[.list (zW (zAy (es.take i))),.int .i64 i]∧i≤es.length) (fun ys=>es.length - (nth ys 1).I.toNat) ?_ ?_
 ·simp[-List.getD_eq_getElem?_getD,yi,zs]
  exact⟨0,⟨by simp[zAy,zW],rfl⟩,by omega⟩
 ·rintro ys ⟨i,rfl,h1⟩
  refine hW.vc [] _ _ ?_
  simp[-List.getD_eq_getElem?_getD,yi,zs]
  refine fun _=>⟨fun h2=>⟨h2,fun _=>?_⟩,fun h2=>by rw[List.take_of_length_le h2]⟩
  have h3:=hp2 _ (yJ h2)
  rw[zC (n:=(nth es i).I+1) (by omega),zC (n:=(i:Int)+1) (by omega),yb,yb,yn,zAM,List.length_take]
  exact⟨by omega,by omega,fun _=>⟨⟨i+1,⟨by rw[zHG h2,zA5],by omega⟩,by omega⟩,by omega⟩⟩
def yS(es:List PV):List UInt8:=yF es.length :: es.flatMap fun e=>nB e.S.length 2++e.S
theorem zFI{es:List PV}{i:Nat}(n:Int)(h:i < es.length):(es.take (i+1)).flatMap (fun e=>nB e.S.length 2++e.S)=(es.take i).flatMap (fun e=>nB e.S.length 2++e.S)++(nB (nth es i).S.length 2++(nth es i).S):=by
 rw[zAe h];simp
theorem zFc{k:Nat}:∀{es:List PV},(∀e∈es,e.S.length≤k)→(es.flatMap fun e=>nB e.S.length 2++e.S).length≤es.length*(k+2)
 | [],_=>by simp
 | e :: es,h=>by
  have h1:=zFc (es:=es) fun x hx=>h x (by simp[hx])
  have h2:=h e (by simp)
  simp only[List.flatMap_cons,List.length_append,yn,List.length_cons,Nat.add_mul] at h1 ⊢
  omega
def zAC:zP:=⟨[(.rd,.list .str)],[.list (.int .u8)],true,fun ps=>(nth ps 0).L.length≤1000∧∀e∈(nth ps 0).L,e.S.length≤1048576,fun ps=>[.list (zW (yS (nth ps 0).L))],fun _=>[]⟩
theorem zJj:yQ Try.prog 42 zAC:=by
 refine zf [0,2,3,4] [.tmp 2] (zA (cs:=[]) zCb (zG (zD []))) zb Try.func42 rfl (by decide) rfl (by decide) rfl ?_
 intro ps hT hpre W hW
 simp only[zAC,TyA,Ty,Tys] at hT hpre
 obtain⟨_,_,rfl,⟨es,rfl,hes,tes⟩,rfl⟩:=hT
 simp only[zF,zCk] at hpre
 obtain⟨hp1,hp2⟩:=hpre
 refine hW.vc [(5,[7,12],tkN [0,1,2,3,4,5,8,9] (.alt 6 (.alt 7 (tkN [10,11] (alN [12,13] .done)) (alS 10 (.alt 7 (tkN [11] (alN [12,13] .done)) (alN [11,7,12,13] .done)))) (alS 10 (.alt 6 (.alt 7 (tkN [11] (alN [12,13] .done)) (alN [11,7,12,13] .done)) (alN [11,6,7,12,13] .done)))))] _ _ ?_
 simp[-List.getD_eq_getElem?_getD,zAC,zs]
 refine fun h1=>hW.loopS _ _ _ [.sl 3 .dp (.list (.int .u8)),.sl 4 .dp (.int .i64)] (fun ys=>∃i:Nat,ys=[.list (zW (yF es.length :: (es.take i).flatMap fun e=>nB e.S.length 2++e.S)),.int .i64 i]∧i≤es.length) (fun ys=>es.length - (nth ys 1).I.toNat) ?_ ?_
 ·simp[-List.getD_eq_getElem?_getD,zAC,zs]
  exact⟨0,⟨by simp[zW,zDA],rfl⟩,by omega⟩
 ·rintro ys ⟨i,rfl,h2⟩
  refine hW.vc [(5,[7,12],tkN [0,1,2,3,4,5,8,9] (.alt 6 (.alt 7 (tkN [10,11] (alN [12,13] .done)) (alS 10 (.alt 7 (tkN [11] (alN [12,13] .done)) (alN [11,7,12,13] .done)))) (alS 10 (.alt 6 (.alt 7 (tkN [11] (alN [12,13] .done)) (alN [11,7,12,13] .done)) (alN [11,6,7,12,13] .done)))))] _ _ ?_
  simp[-List.getD_eq_getElem?_getD,zAC,zs]
  refine fun _=>⟨fun h3=>?_,fun h3=>by rw[List.take_of_length_le h3];rfl⟩
  have hA:(zW (yF es.length :: (es.take i).flatMap fun e=>nB e.S.length 2++e.S)).length≤1100000000:=by
   rw[yb,List.length_cons]
   have:=zFc (k:=1048576) (es:=es.take i) fun e he=>hp2 e (List.mem_of_mem_take he)
   rw[List.length_take,Nat.min_eq_left h2] at this
   omega
  have hB:(zW (nB ((nth es i).S.length:Int) 2)).length=2:=by rw[yb,yn]
  have hS:(zW (nth es i).S).length≤1048576:=by rw[yb];exact hp2 _ (yJ h3)
  rw[zC (n:=(i:Int)+1) (by omega)]
  generalize hX:zW (yF es.length :: (es.take i).flatMap fun e=>nB e.S.length 2++e.S)=X at *
  have hfin:(∃i_1:Nat,(X++(zW (nB ((nth es i).S.length:Int) 2)++zW (nth es i).S)=zW (yF es.length :: (es.take i_1).flatMap fun e=>nB e.S.length 2++e.S)∧(i:Int)+1=i_1)∧i_1≤es.length)∧es.length - ((i:Int)+1).toNat < es.length - i:=by
   refine⟨⟨i+1,⟨?_,by omega⟩,by omega⟩,by omega⟩
   rw[←hX,zFI 0 h3,←zA5,←zA5,List.cons_append]
  exact⟨by decide +kernel,h3,fun _ _=>⟨⟨by omega,fun _=>⟨h3,fun _=>⟨by omega,fun _=>hfin⟩⟩⟩,h3,⟨by omega,fun _=>⟨h3,fun _=>⟨by omega,fun _=>hfin⟩⟩⟩,h3,fun _=>⟨by omega,fun _=>⟨by omega,fun _=>hfin⟩⟩⟩⟩
theorem zHX{w h:Int}:∀{es:List PV} {p:Int},upB w h p es=true→∀i,i < es.length→(0≤(nth (nth es i).A 0).I∧(nth (nth es i).A 0).I < h)∧((nth (nth es i).A 1).S.length:Int)=4*w
 | [],p,hu,i,hi=>by simp at hi
 | e :: es,p,hu,0,hi=>by
  simp only[upB,Bool.and_eq_true,inB,decide_eq_true_eq,zIP] at hu
  rw[zF];omega
 | e :: es,p,hu,i+1,hi=>by
  simp only[upB,Bool.and_eq_true] at hu
  rw[zK]
  exact zHX hu.2 i (by simpa using hi)
theorem zKG{w h p:Int}{es:List PV}(hu:upB w h p es=true):∀e∈es,(0≤(nth e.A 0).I∧(nth e.A 0).I < h)∧((nth e.A 1).S.length:Int)=4*w:=by
 intro e he
 obtain⟨i,hi,rfl⟩:=List.mem_iff_getElem.1 he
 have:=zHX hu i hi
 rwa[zB9 hi] at this
theorem zD6{n f w h:Int}{u:Bool}{es:List PV}(hv:zBd [.int .i64 n,.int .i64 f,.bool u,.int .i64 w,.int .i64 h,.list es]=true) :
  (0≤n∧n≤60∧0≤f∧f≤60∧2≤w∧w≤24∧2≤h∧h≤10∧(es.length:Int)≤h)∧upB w h (-1) es=true∧(u=true→(es.length:Int)=h∧f=0)∧(u=false→f < n):=by
 have e1:inB n 0 60=true∧zBo w h=true∧leB es.length h=true∧upB w h (-1) es=true∧zMD u (f == 0&&(es.length:Int) == h) (inB f 0 (n - 1))=true:=by
  simpa[zBd,zF,zK,zAS,zCk,zNj,and_assoc] using hv
 obtain⟨h1,h2,h4,h5,h6⟩:=e1
 simp only[inB,zBo,leB,Bool.and_eq_true,decide_eq_true_eq] at h1 h2 h4
 have h7:(u=true→(es.length:Int)=h∧f=0)∧(u=false→0≤f∧f < n):=by
  cases u
  ·simp[zMD,inB] at h6 ⊢;omega
  ·simp[zMD] at h6 ⊢;omega
 refine⟨?_,h5,h7.1,fun hu=>(h7.2 hu).2⟩
 cases u
 ·have:=h7.2 rfl;omega
 ·have:=h7.1 rfl;omega
def VW.ls'(v:VW):List PV:=[.int .i64 v.n,.int .i64 v.f,.bool v.u,.int .i64 v.w,.int .i64 v.h,.list v.r]
def zDW(v:VW):List UInt8:=yS (.str (zAy [.int .i64 v.n,.int .i64 v.f,.int .i64 (zGo v.u),.int .i64 v.w,.int .i64 v.h]) :: v.r.map fun e=>.str (nB (nth e.A 0).I 1++(nth e.A 1).S))
def zp:zP:=⟨[(.rd,.agg [.int .i64,.int .i64,.bool,.int .i64,.int .i64,.list (.agg [.int .i64,.str])])],[.str],true,fun ps=>zBd (nth ps 0).A=true,fun ps=>[.str (zDW ⟨(nth (nth ps 0).A 0).I,(nth (nth ps 0).A 1).I,(nth (nth ps 0).A 2).B,(nth (nth ps 0).A 3).I,(nth (nth ps 0).A 4).I,(nth (nth ps 0).A 5).L⟩)],fun _=>[]⟩
theorem zLT:yQ Try.prog 22 zp:=by
 refine zf [0,1,2,3,4] [.tmp 2] (zA (cs:=[]) zOV (zA (cs:=[]) zJj (zA (cs:=[]) zCb (zA (cs:=[]) zIo (zG (zD [])))))) zb Try.func22 rfl (by decide) rfl (by decide) rfl ?_
 intro ps hT hpre W hW
 simp only[zp,TyA,Ty,Tys] at hT hpre
 obtain⟨_,_,rfl,⟨_,rfl,_,_,rfl,⟨n,rfl,hn⟩,_,_,rfl,⟨f,rfl,hf⟩,_,_,rfl,⟨u,rfl⟩,_,_,rfl,⟨w,rfl,hw⟩,_,_,rfl,⟨h,rfl,hh⟩,_,_,rfl,⟨es,rfl,hes,tes⟩,rfl⟩,rfl⟩:=hT
 simp only[zF,zBp] at hpre
 refine hW.vc [(1,[],tkN [0,1,2,3,4,5,7,8,9,10] (alN [6,11,12] (tkN [13] (alN [14,15] .done)))),(5,[17],tkN [0,1,2,3,4,5,6,9,10,11,12,13,14] (alS 7 (tkN [8,15] (alN [16,17,18] .done))))] _ _ ?_
 simp[-List.getD_eq_getElem?_getD,zp,yi,zs,zAC,zDS,zC8,zC8]
 obtain⟨g1,g2,g3,g4⟩:=zD6 hpre
 have hup:=zHX g2
 have hb:-1≤zGo u∧zGo u≤1073741824:=by cases u<;>simp[zGo]
 refine⟨by decide +kernel,rfl,⟨by omega,by omega,hb,by omega,by omega⟩,?_⟩
 rw[yZ]
 refine hW.loopS _ _ _ [.sl 3 .dp (.list .str),.sl 4 .dp (.int .i64)] (fun ys=>∃i:Nat,ys=[.list (.str (zAy [.int .i64 n,.int .i64 f,.int .i64 (zGo u),.int .i64 w,.int .i64 h]) :: (es.take i).map fun e=>.str (nB (nth e.A 0).I 1++(nth e.A 1).S)),.int .i64 i]∧i≤es.length) (fun ys=>es.length - (nth ys 1).I.toNat) ?_ ?_
 ·simp[-List.getD_eq_getElem?_getD,zp,yi,zs,zAC,zDS,zC8,zC8]
  exact⟨0,⟨by simp,rfl⟩,by omega⟩
 ·rintro ys ⟨i,rfl,h2⟩
  refine hW.vc [(1,[],tkN [0,1,2,3,4,5,7,8,9,10] (alN [6,11,12] (tkN [13] (alN [14,15] .done)))),(5,[17],tkN [0,1,2,3,4,5,6,9,10,11,12,13,14] (alS 7 (tkN [8,15] (alN [16,17,18] .done))))] _ _ ?_
  simp[-List.getD_eq_getElem?_getD,zp,yi,zs,zAC,zDS,zC8,zC8]
  rw[zC (n:=(i:Int)+1) (by omega)]
  refine fun _=>⟨fun h3=>⟨by decide +kernel,h3,fun _=>⟨h3,fun _=>⟨(hup i h3).1.1,?_,by omega,fun _=>⟨⟨i+1,⟨?_,by omega⟩,by omega⟩,by omega⟩⟩⟩⟩,fun h3=>⟨⟨by omega,?_,?_⟩,?_⟩⟩
  ·have:=(hup i h3).2
   rw[yZ,yn];omega
  ·rw[yZ,zAe (by simpa using h3),zHm _ _ _ h3,zB9 h3]
  ·rw[zAM];simp
  ·intro a ha
   obtain⟨e,he,rfl⟩:=List.mem_map.1 (List.mem_of_mem_take ha)
   have:=(zKG g2 e he).2
   simp only[zCt,List.length_append,yn];omega
  ·rw[yZ,List.take_of_length_le (by simpa using h3)];rfl
theorem zID{n f w h:Int}{u:Bool}{es:List PV}(hv:zBd [.int .i64 n,.int .i64 f,.bool u,.int .i64 w,.int .i64 h,.list es]=true):(zDW ⟨n,f,u,w,h,es⟩).length≤1100:=by
 obtain⟨g1,g2,g3,g4⟩:=zD6 hv
 unfold zDW yS
 rw[List.length_cons]
 have:=zFc (k:=97) (es:=.str (zAy [.int .i64 n,.int .i64 f,.int .i64 (zGo u),.int .i64 w,.int .i64 h]) :: es.map fun e=>.str (nB (nth e.A 0).I 1++(nth e.A 1).S)) fun x hx=>by
  rcases List.mem_cons.1 hx with rfl | hx
  ·rw[zCt,zAM];simp
  ·obtain⟨e,he,rfl⟩:=List.mem_map.1 hx
   have:=(zKG g2 e he).2
   simp only[zCt,List.length_append,yn];omega
 rw[List.length_cons,List.length_map] at this
 refine Nat.le_trans (Nat.add_le_add_right this 1) ?_
 omega
def zAA(v:VW):List PV × Int:=if zBd v.ls'=true then (zW (zDW v),0) else ([],1)
theorem zL1{v:VW}(h:zBd v.ls'=true):zAA v=(zW (zDW v),0):=if_pos h
theorem zSP{v:VW}(h:zBd v.ls'=false):zAA v=([],1):=if_neg (by simp[h])
def yg:zP:=⟨[(.rd,.agg [.int .i64,.int .i64,.bool,.int .i64,.int .i64,.list (.agg [.int .i64,.str])])],[.list (.int .u8),.int .i64],true,fun _=>True,
 fun ps=>[.list (zAA ⟨(nth (nth ps 0).A 0).I,(nth (nth ps 0).A 1).I,(nth (nth ps 0).A 2).B,(nth (nth ps 0).A 3).I,(nth (nth ps 0).A 4).I,(nth (nth ps 0).A 5).L⟩).1,
  .int .i64 (zAA ⟨(nth (nth ps 0).A 0).I,(nth (nth ps 0).A 1).I,(nth (nth ps 0).A 2).B,(nth (nth ps 0).A 3).I,(nth (nth ps 0).A 4).I,(nth (nth ps 0).A 5).L⟩).2],fun _=>[]⟩
theorem zIk:yQ Try.prog 9 yg:=by
 refine zf [0,1,2,3] [.tmp 2,.tmp 3] (zA (cs:=[]) zLT (zA (cs:=[]) zIj (zG (zD [])))) zb Try.func9 rfl (by decide) rfl (by decide) rfl ?_
 intro ps hT hpre W hW
 simp only[yg,TyA,Ty,Tys] at hT hpre
 obtain⟨_,_,rfl,⟨_,rfl,_,_,rfl,⟨n,rfl,hn⟩,_,_,rfl,⟨f,rfl,hf⟩,_,_,rfl,⟨u,rfl⟩,_,_,rfl,⟨w,rfl,hw⟩,_,_,rfl,⟨h,rfl,hh⟩,_,_,rfl,⟨es,rfl,hes,tes⟩,rfl⟩,rfl⟩:=hT
 refine hW.vc [] _ _ ?_
 simp[-List.getD_eq_getElem?_getD,yg,zAk,zp,yA,yA]
 exact⟨fun q=>by rw[zSP (v:=⟨n,f,u,w,h,es⟩) q];simp,fun q=>⟨q,by rw[zL1 (v:=⟨n,f,u,w,h,es⟩) q];simp⟩⟩
end
section
variable [ze]
structure SC where
 w:Int
 h:Int
 x:Int
 y:Int
 look:Int
 top:Int
 bot:Int
 sx:Int
 sy:Int
 tit:List UInt8
 cs:List PV
 hist:List PV
def SC.pv(s:SC):PV:=.agg [.int .i64 s.w,.int .i64 s.h,.int .i64 s.x,.int .i64 s.y,.int .i64 s.look,.int .i64 s.top,.int .i64 s.bot,.int .i64 s.sx,.int .i64 s.sy,.str s.tit,.list s.cs,.list s.hist]
def zAw(v:List PV):SC:=⟨(nth v 0).I,(nth v 1).I,(nth v 2).I,(nth v 3).I,(nth v 4).I,(nth v 5).I,(nth v 6).I,(nth v 7).I,(nth v 8).I,(nth v 9).S,(nth v 10).L,(nth v 11).L⟩
def blC:PV:=.agg [.int .i64 32,.int .i64 0]
def cel(r l:Int):PV:=.agg [.int .i64 r,.int .i64 l]
def zAD(a b:Int):Int:=if a < b then a else b
def zCS(a b:Int):Int:=if a < b then b else a
def zCE(cs:List PV)(a b:Nat):List PV:=cs.take a++(List.replicate (b - a) blC++cs.drop (a+(b - a)))
def upC(cs:List PV)(w a b:Nat):List PV:=cs.take (a*w)++((cs.drop ((a+1)*w)).take ((b - a)*w)++(List.replicate w blC++cs.drop ((b+1)*w)))
def dnC(cs:List PV)(w a b:Nat):List PV:=cs.take (a*w)++(List.replicate w blC++((cs.drop (a*w)).take ((b - a)*w)++cs.drop ((b+1)*w)))
def zFV(cs:List PV):List UInt8:=cs.flatMap fun c=>zEn (nth c.A 0).I
def zIG:List PV→List PV
 | []=>[]
 | c :: cs=>if zIG cs=[]∧(nth c.A 0).I=32 then [] else c :: zIG cs
def zFz(cs:List PV)(w y:Nat):List UInt8:=zFV (zIG ((cs.drop (y*w)).take w))
def zMW(hs:List PV)(t:List UInt8):List PV:=if 6 < hs.length+1 then (hs++[PV.str t]).drop 1 else hs++[PV.str t]
def upS(s:SC)(a b:Int)(keep:Bool):SC:=
 { s with hist:=if a=0∧keep=true then zMW s.hist (zFz s.cs s.w.toNat 0) else s.hist,cs:=upC s.cs s.w.toNat a.toNat b.toNat }
def dnS(s:SC)(a b:Int):SC:={ s with cs:=dnC s.cs s.w.toNat a.toNat b.toNat }
def upN(a b:Int)(keep:Bool):Nat→SC→SC
 | 0,s=>s
 | n+1,s=>upN a b keep n (upS s a b keep)
def dnN(a b:Int):Nat→SC→SC
 | 0,s=>s
 | n+1,s=>dnN a b n (dnS s a b)
def dwn(s:SC):SC:=if s.y=s.bot then upS s s.top s.bot true else { s with y:=zAD (s.h - 1) (s.y+1) }
def upw(s:SC):SC:=if s.y=s.top then dnS s s.top s.bot else { s with y:=zCS 0 (s.y - 1) }
def zGv(s:SC):SC:=if s.x=s.w then dwn { s with x:=0 } else s
def prt(s:SC)(r:Int):SC:={ zGv s with cs:=(zGv s).cs.set ((zGv s).y*(zGv s).w+(zGv s).x).toNat (cel r (zGv s).look),x:=(zGv s).x+1 }
def ctl(s:SC)(b:Int):SC:=
 if b=8 then { s with x:=zCS 0 (zAD s.x (s.w - 1) - 1) } else if b=9 then { s with x:=zAD (s.w - 1) ((s.x / 8+1)*8) } else if b=10 then dwn s else if b=13 then { s with x:=0 } else s
def zLM(w h:Int):SC:=⟨w,h,0,0,0,0,h - 1,0,0,[],List.replicate (w*h).toNat blC,[]⟩
def esc(s:SC)(b:Int):SC:=
 if b=55 then { s with sx:=s.x,sy:=s.y } else if b=56 then { s with x:=s.sx,y:=s.sy } else if b=68 then dwn s else if b=69 then dwn { s with x:=0 } else if b=77 then upw s
 else if b=99 then { zLM s.w s.h with hist:=s.hist } else s
def zKa(l n:Int):Int:=
 if n=0 then 0 else if n=1 then orI .i64 l 64 else if n=4 then orI .i64 l 32 else if n=7 then orI .i64 l 16 else if inB n 30 37 then orI .i64 (zPd .i64 l 112) (n - 29) else if n=39 then zPd .i64 l 112 else l
def yx(args:List PV)(i:Nat)(o:Int):Int:=if args.length≤i∨(nth args i).I < 0 then o else (nth args i).I
def zLN(l:Int):List PV→Int
 | []=>l
 | a :: la=>zLN (zKa l (zCS 0 a.I)) la
def atS(s:SC):Nat:=(s.y*s.w+zAD s.x (s.w - 1)).toNat
def csi(s:SC)(k:Int)(la:List PV):SC:=
 let n:=zCS 1 (yx la 0 1)
 if k=65 then { s with y:=zCS 0 (s.y - n) } else if k=66 then { s with y:=zAD (s.h - 1) (s.y+n) } else if k=67 then { s with x:=zAD (s.w - 1) (s.x+n) }
 else if k=68 then { s with x:=zCS 0 (zAD s.x (s.w - 1) - n) } else if k=72∨k=102 then { s with y:=zAD (s.h - 1) (n - 1),x:=zAD (s.w - 1) (zCS 1 (yx la 1 1) - 1) }
 else if k=74 then (if yx la 0 0=0 then { s with cs:=zCE s.cs (atS s) (s.w*s.h).toNat } else if yx la 0 0=1 then { s with cs:=zCE s.cs 0 (atS s+1) } else if yx la 0 0=2 then { s with cs:=zCE s.cs 0 (s.w*s.h).toNat } else s)
 else if k=75 then (if yx la 0 0=0 then { s with cs:=zCE s.cs (atS s) ((s.y+1)*s.w).toNat } else if yx la 0 0=1 then { s with cs:=zCE s.cs (s.y*s.w).toNat (atS s+1) } else if yx la 0 0=2 then { s with cs:=zCE s.cs (s.y*s.w).toNat ((s.y+1)*s.w).toNat } else s)
 else if k=76 then (if inB s.y s.top s.bot then { dnN s.y s.bot (zAD n (s.bot - s.y+1)).toNat s with x:=0 } else s)
 else if k=77 then (if inB s.y s.top s.bot then { upN s.y s.bot false (zAD n (s.bot - s.y+1)).toNat s with x:=0 } else s)
 else if k=83 then upN s.top s.bot true (zAD n (s.bot - s.top+1)).toNat s
 else if k=84 then dnN s.top s.bot (zAD n (s.bot - s.top+1)).toNat s
 else if k=109 then { s with look:=zLN s.look la }
 else if k=114 then (if n - 1 < zAD s.h (yx la 1 s.h) - 1 then { s with top:=n - 1,bot:=zAD s.h (yx la 1 s.h) - 1,x:=0,y:=0 } else s)
 else s
def doA(s:SC)(a:List PV):SC:=
 if (nth a 0).I=1 then prt s (nth a 1).I else if (nth a 0).I=2 then ctl s (nth a 1).I else if (nth a 0).I=3 then esc s (nth a 1).I
 else if (nth a 0).I=4 then (if (nth a 2).B=true then s else csi s (nth a 1).I (nth a 3).L) else if (nth a 0).I=5 then { s with tit:=(nth a 4).S } else s
def doL(s:SC):List PV→SC
 | []=>s
 | a :: la=>doL (doA s a.A) la
def zGt(cs:List PV):List UInt8:=cs.flatMap fun c=>nB (nth c.A 0).I 3++[yF (nth c.A 1).I]
def ceI(c:PV):Prop:=∃r l:Int,c=cel r l∧32≤r∧r≤1114111∧r≠127∧¬(55296≤r∧r≤57343)∧0≤l∧l≤127
theorem zOu:ceI blC:=⟨32,0,rfl,by omega⟩
structure ScI (s:SC):Prop where
 w:2≤s.w∧s.w≤24
 h:2≤s.h∧s.h≤10
 x:0≤s.x∧s.x≤s.w
 y:0≤s.y∧s.y≤s.h - 1
 l:0≤s.look∧s.look≤127
 t:0≤s.top
 b:s.top < s.bot∧s.bot≤s.h - 1
 sx:0≤s.sx∧s.sx≤s.w
 sy:0≤s.sy∧s.sy≤s.h - 1
 n:s.cs.length=(s.w*s.h).toNat
 c:∀e∈s.cs,ceI e
 m:s.hist.length≤6
theorem zAU{a b:Int}:zAD a b≤a∧zAD a b≤b∧(zAD a b=a∨zAD a b=b):=by unfold zAD;split<;>omega
theorem zCw{a b:Int}:a≤zCS a b∧b≤zCS a b∧(zCS a b=a∨zCS a b=b):=by unfold zCS;split<;>omega
theorem zBQ{cs:List PV}{a b:Nat}(h:b≤cs.length)(hab:a≤b):(zCE cs a b).length=cs.length:=by
 simp only[zCE,List.length_append,List.length_take,List.length_replicate,List.length_drop];omega
theorem zLl{cs:List PV}{a b:Nat}(h:∀e∈cs,ceI e):∀e∈zCE cs a b,ceI e:=by
 intro e he
 simp only[zCE,List.mem_append] at he
 rcases he with q | q | q
 ·exact h e (List.mem_of_mem_take q)
 ·rw[List.eq_of_mem_replicate q];exact zOu
 ·exact h e (List.mem_of_mem_drop q)
theorem zH3{w h a b:Nat}(hb:b < h)(hab:a≤b):a*w≤b*w∧(a+1)*w+(b - a)*w=(b+1)*w∧(b+1)*w≤h*w∧(b+1)*w=b*w+w:=by
 refine⟨Nat.mul_le_mul_right w hab,?_,Nat.mul_le_mul_right w hb,by rw[Nat.add_mul,Nat.one_mul]⟩
 rw[←Nat.add_mul];congr 1;omega
theorem zL3{cs:List PV}{w h a b:Nat}(hc:cs.length=h*w)(hb:b < h)(hab:a≤b):(upC cs w a b).length=cs.length:=by
 obtain⟨q1,q2,q3,q4⟩:=zH3 (w:=w) hb hab
 have q5:(a+1)*w=a*w+w:=by rw[Nat.add_mul,Nat.one_mul]
 simp only[upC,List.length_append,List.length_take,List.length_replicate,List.length_drop];omega
theorem zNO{cs:List PV}{w h a b:Nat}(hc:cs.length=h*w)(hb:b < h)(hab:a≤b):(dnC cs w a b).length=cs.length:=by
 obtain⟨q1,q2,q3,q4⟩:=zH3 (w:=w) hb hab
 have q5:(a+1)*w=a*w+w:=by rw[Nat.add_mul,Nat.one_mul]
 simp only[dnC,List.length_append,List.length_take,List.length_replicate,List.length_drop];omega
theorem up_c{cs:List PV}{w a b:Nat}(h:∀e∈cs,ceI e):∀e∈upC cs w a b,ceI e:=by
 intro e he
 simp only[upC,List.mem_append] at he
 rcases he with q | q | q | q
 ·exact h e (List.mem_of_mem_take q)
 ·exact h e (List.mem_of_mem_drop (List.mem_of_mem_take q))
 ·rw[List.eq_of_mem_replicate q];exact zOu
 ·exact h e (List.mem_of_mem_drop q)
theorem dn_c{cs:List PV}{w a b:Nat}(h:∀e∈cs,ceI e):∀e∈dnC cs w a b,ceI e:=by
 intro e he
 simp only[dnC,List.mem_append] at he
 rcases he with q | q | q | q
 ·exact h e (List.mem_of_mem_take q)
 ·rw[List.eq_of_mem_replicate q];exact zOu
 ·exact h e (List.mem_of_mem_drop (List.mem_of_mem_take q))
 ·exact h e (List.mem_of_mem_drop q)
theorem zP5{hs:List PV}{t:List UInt8}(h:hs.length≤6):(zMW hs t).length≤6:=by
 unfold zMW
 split
 ·simp;omega
 ·simp;omega
theorem ScI.nn{s:SC}(h:ScI s):s.cs.length=s.h.toNat*s.w.toNat:=by
 have w:=h.w;have h':=h.h
 rw[h.n,←Int.toNat_mul (by omega) (by omega),Int.mul_comm]
theorem ScI.put{s:SC}(h:ScI s){cs hist:List PV}(hc:cs.length=s.cs.length)(hi:∀e∈cs,ceI e)(hm:hist.length≤6):ScI { s with cs:=cs,hist:=hist }:=
 ⟨h.w,h.h,h.x,h.y,h.l,h.t,h.b,h.sx,h.sy,hc.trans h.n,hi,hm⟩
theorem ScI.go{s:SC}(h:ScI s){x y:Int}(hx:0≤x∧x≤s.w)(hy:0≤y∧y≤s.h - 1):ScI { s with x:=x,y:=y }:=
 ⟨h.w,h.h,hx,hy,h.l,h.t,h.b,h.sx,h.sy,h.n,h.c,h.m⟩
theorem zRy{s:SC}(h:ScI s){a b:Int}{k:Bool}(ha:0≤a)(hab:a≤b)(hb:b≤s.h - 1):ScI (upS s a b k):=by
 have h':=h.h
 refine h.put (zL3 h.nn (by omega) (by omega)) (up_c h.c) ?_
 split
 ·exact zP5 h.m
 ·exact h.m
theorem dn_I{s:SC}(h:ScI s){a b:Int}(ha:0≤a)(hab:a≤b)(hb:b≤s.h - 1):ScI (dnS s a b):=by
 have h':=h.h
 exact h.put (zNO h.nn (by omega) (by omega)) (dn_c h.c) h.m
theorem zPn{a b:Int}{k:Bool}(ha:0≤a)(hab:a≤b):∀{n:Nat} {s:SC},ScI s→b≤s.h - 1→ScI (upN a b k n s)
 | 0,_,h,_=>h
 | n+1,s,h,hb=>zPn (n:=n) ha hab (zRy h ha hab hb) hb
theorem zQX{a b:Int}(ha:0≤a)(hab:a≤b):∀{n:Nat} {s:SC},ScI s→b≤s.h - 1→ScI (dnN a b n s)
 | 0,_,h,_=>h
 | n+1,s,h,hb=>zQX (n:=n) ha hab (dn_I h ha hab hb) hb
theorem zKH{a b:Int}{k:Bool}:∀{n:Nat} {s:SC},(upN a b k n s).w=s.w∧(upN a b k n s).h=s.h∧(upN a b k n s).y=s.y∧(upN a b k n s).x=s.x
 | 0,_=>⟨rfl,rfl,rfl,rfl⟩
 | n+1,s=>zKH (n:=n) (s:=upS s a b k)
theorem zKx{a b:Int}:∀{n:Nat} {s:SC},(dnN a b n s).w=s.w∧(dnN a b n s).h=s.h∧(dnN a b n s).y=s.y∧(dnN a b n s).x=s.x
 | 0,_=>⟨rfl,rfl,rfl,rfl⟩
 | n+1,s=>zKx (n:=n) (s:=dnS s a b)
theorem zIv{s:SC}(h:ScI s):ScI (dwn s):=by
 have b:=h.b;have t:=h.t;have y:=h.y;have h':=h.h
 unfold dwn
 split
 ·exact zRy h t (by omega) b.2
 ·have:=zAU (a:=s.h - 1) (b:=s.y+1)
  exact h.go h.x (by omega)
theorem upw_I{s:SC}(h:ScI s):ScI (upw s):=by
 have b:=h.b;have t:=h.t;have y:=h.y;have h':=h.h
 unfold upw
 split
 ·exact dn_I h t (by omega) b.2
 ·have:=zCw (a:=0) (b:=s.y - 1)
  exact h.go h.x (by omega)
theorem zKv(s:SC):(dwn s).w=s.w∧(dwn s).x=s.x∧(dwn s).h=s.h:=by
 unfold dwn;split<;>exact⟨rfl,rfl,rfl⟩
theorem zSl{s:SC}(h:ScI s):ScI (zGv s)∧(zGv s).x < (zGv s).w:=by
 have w:=h.w;have x:=h.x
 unfold zGv
 split
 ·have:=zKv { s with x:=0 }
  exact⟨zIv (h.go (x:=0) (y:=s.y) (by omega) h.y),by rw[this.1,this.2.1];show(0:Int) < s.w;omega⟩
 ·exact⟨h,by omega⟩
theorem prt_I{s:SC}(h:ScI s){r:Int}(hr:32≤r∧r≤1114111∧r≠127∧¬(55296≤r∧r≤57343)):ScI (prt s r):=by
 obtain⟨q,qx⟩:=zSl h
 have x:=q.x;have w:=q.w
 have g:=q.go (x:=(zGv s).x+1) (y:=(zGv s).y) (by omega) q.y
 refine g.put (hist:=(zGv s).hist) (by simp) ?_ q.m
 intro e he
 rcases List.mem_or_eq_of_mem_set he with z | z
 ·exact q.c e z
 ·rw[z];exact⟨r,_,rfl,hr.1,hr.2.1,hr.2.2.1,hr.2.2.2,q.l⟩
theorem ctl_I{s:SC}(h:ScI s)(b:Int):ScI (ctl s b):=by
 have w:=h.w;have x:=h.x;have y:=h.y
 unfold ctl
 split
 ·have a:=zAU (a:=s.x) (b:=s.w - 1)
  have c:=zCw (a:=0) (b:=zAD s.x (s.w - 1) - 1)
  exact h.go (by omega) h.y
 ·split
  ·have a:=zAU (a:=s.w - 1) (b:=(s.x / 8+1)*8)
   exact h.go (by omega) h.y
  ·split
   ·exact zIv h
   ·split
    ·exact h.go (by omega) h.y
    ·exact h
theorem zMl{w h:Int}(hw:2≤w∧w≤24)(hh:2≤h∧h≤10):ScI (zLM w h):=by
 refine⟨hw,hh,?_,?_,?_,?_,?_,?_,?_,by simp[zLM],?_,by simp[zLM]⟩<;>simp only[zLM]<;>try omega
 intro e he
 rw[List.eq_of_mem_replicate he];exact zOu
theorem esc_I{s:SC}(h:ScI s)(b:Int):ScI (esc s b):=by
 have w:=h.w;have x:=h.x;have y:=h.y
 unfold esc
 split
 ·exact⟨h.w,h.h,h.x,h.y,h.l,h.t,h.b,h.x,h.y,h.n,h.c,h.m⟩
 ·split
  ·exact h.go h.sx h.sy
  ·split
   ·exact zIv h
   ·split
    ·exact zIv (h.go (x:=0) (y:=s.y) (by omega) h.y)
    ·split
     ·exact upw_I h
     ·split
      ·have q:=zMl h.w h.h
       exact q.put (cs:=(zLM s.w s.h).cs) rfl q.c h.m
      ·exact h
theorem zQK:∀l,l < 128→∀k,k < 8→(0≤orI .i64 (l:Nat) 64∧orI .i64 (l:Nat) 64≤127)∧(0≤orI .i64 (l:Nat) 32∧orI .i64 (l:Nat) 32≤127)∧(0≤orI .i64 (l:Nat) 16∧orI .i64 (l:Nat) 16≤127) ∧
  (0≤zPd .i64 (l:Nat) 112∧zPd .i64 (l:Nat) 112≤127)∧(0≤orI .i64 (zPd .i64 (l:Nat) 112) ((k:Nat)+1:Int)∧orI .i64 (zPd .i64 (l:Nat) 112) ((k:Nat)+1:Int)≤127):=by decide +kernel
theorem zQL{l n:Int}(h:0≤l∧l≤127):0≤zKa l n∧zKa l n≤127:=by
 obtain⟨m,rfl⟩:∃m:Nat,l=m:=⟨l.toNat,by omega⟩
 have a:=zQK m (by omega)
 have a0:=a 0 (by omega)
 unfold zKa
 split
 ·omega
 ·split
  ·exact a0.1
  ·split
   ·exact a0.2.1
   ·split
    ·exact a0.2.2.1
    ·split
     ·rename_i hb
      have hb:=zER.1 hb
      have:=(a (n - 30).toNat (by omega)).2.2.2.2
      rwa[show(((n - 30).toNat:Nat):Int)+1=n - 29 by omega] at this
     ·split
      ·exact a0.2.2.2.1
      ·exact h
theorem zMp:∀{la:List PV} {l:Int},0≤l∧l≤127→0≤zLN l la∧zLN l la≤127
 | [],_,h=>h
 | a :: la,l,h=>zMp (la:=la) (zQL h)
theorem zPc{s:SC}(h:ScI s):atS s < s.cs.length∧(s.y*s.w).toNat≤atS s∧atS s < ((s.y+1)*s.w).toNat∧((s.y+1)*s.w).toNat≤s.cs.length∧(s.w*s.h).toNat=s.cs.length:=by
 have w:=h.w;have x:=h.x;have y:=h.y;have n:=h.n;have h':=h.h
 have a:=zAU (a:=s.x) (b:=s.w - 1)
 have e:(s.y+1)*s.w=s.y*s.w+s.w:=by rw[Int.add_mul,Int.one_mul]
 have p:0≤s.y*s.w:=Int.mul_nonneg (by omega) (by omega)
 have m:(s.y+1)*s.w≤s.h*s.w:=Int.mul_le_mul_of_nonneg_right (by omega) (by omega)
 have c:s.w*s.h=s.h*s.w:=Int.mul_comm _ _
 unfold atS
 omega
theorem zAq{c:Prop}[Decidable c]{a b:SC}(h1:c→ScI a)(h2:¬c→ScI b):ScI (if c then a else b):=by
 by_cases h:c
 ·rw[if_pos h];exact h1 h
 ·rw[if_neg h];exact h2 h
theorem csi_I{s:SC}(h:ScI s)(k:Int)(la:List PV):ScI (csi s k la):=by
 have w:=h.w;have x:=h.x;have y:=h.y;have n:=h.n;have h':=h.h;have b:=h.b;have t:=h.t
 have n1:=zCw (a:=1) (b:=yx la 0 1)
 have m1:=zAU (a:=s.x) (b:=s.w - 1)
 have hat:=zPc h
 unfold csi
 simp only
 obtain⟨N,hN⟩:∃N,N=zCS 1 (yx la 0 1):=⟨_,rfl⟩
 rw[←hN] at n1 ⊢
 refine zAq (fun hb=>?_) fun _=>?_
 ·have:=zCw (a:=0) (b:=s.y - N)
  exact h.go h.x (by omega)
 refine zAq (fun hb=>?_) fun _=>?_
 ·have:=zAU (a:=s.h - 1) (b:=s.y+N)
  exact h.go h.x (by omega)
 refine zAq (fun hb=>?_) fun _=>?_
 ·have:=zAU (a:=s.w - 1) (b:=s.x+N)
  exact h.go (by omega) h.y
 refine zAq (fun hb=>?_) fun _=>?_
 ·have:=zCw (a:=0) (b:=zAD s.x (s.w - 1) - N)
  exact h.go (by omega) h.y
 refine zAq (fun hb=>?_) fun _=>?_
 ·have:=zAU (a:=s.h - 1) (b:=N - 1)
  have q:=zCw (a:=1) (b:=yx la 1 1)
  have:=zAU (a:=s.w - 1) (b:=zCS 1 (yx la 1 1) - 1)
  exact h.go (by omega) (by omega)
 refine zAq (fun hb=>?_) fun _=>?_
 ·refine zAq (fun hb=>?_) fun _=>?_
  ·exact h.put (hist:=s.hist) (zBQ (by omega) (by omega)) (zLl h.c) h.m
  refine zAq (fun hb=>?_) fun _=>?_
  ·exact h.put (hist:=s.hist) (zBQ (by omega) (by omega)) (zLl h.c) h.m
  refine zAq (fun hb=>?_) fun _=>?_
  ·exact h.put (hist:=s.hist) (zBQ (by omega) (by omega)) (zLl h.c) h.m
  ·exact h
 refine zAq (fun hb=>?_) fun _=>?_
 ·refine zAq (fun hb=>?_) fun _=>?_
  ·exact h.put (hist:=s.hist) (zBQ (by omega) (by omega)) (zLl h.c) h.m
  refine zAq (fun hb=>?_) fun _=>?_
  ·exact h.put (hist:=s.hist) (zBQ (by omega) (by omega)) (zLl h.c) h.m
  refine zAq (fun hb=>?_) fun _=>?_
  ·exact h.put (hist:=s.hist) (zBQ (by omega) (by omega)) (zLl h.c) h.m
  ·exact h
 refine zAq (fun hb=>?_) fun _=>?_
 ·refine zAq (fun hb=>?_) fun _=>?_
  ·skip
   have hb:=zER.1 hb
   have q:=zQX (n:=(zAD N (s.bot - s.y+1)).toNat) y.1 hb.2 h b.2
   have e:=zKx (a:=s.y) (b:=s.bot) (n:=(zAD N (s.bot - s.y+1)).toNat) (s:=s)
   exact q.go (x:=0) (y:=_) (by omega) q.y
  ·exact h
 refine zAq (fun hb=>?_) fun _=>?_
 ·refine zAq (fun hb=>?_) fun _=>?_
  ·skip
   have hb:=zER.1 hb
   have q:=zPn (k:=false) (n:=(zAD N (s.bot - s.y+1)).toNat) y.1 hb.2 h b.2
   have e:=zKH (a:=s.y) (b:=s.bot) (k:=false) (n:=(zAD N (s.bot - s.y+1)).toNat) (s:=s)
   exact q.go (x:=0) (y:=_) (by omega) q.y
  ·exact h
 refine zAq (fun hb=>?_) fun _=>?_
 ·exact zPn t (by omega) h b.2
 refine zAq (fun hb=>?_) fun _=>?_
 ·exact zQX t (by omega) h b.2
 refine zAq (fun hb=>?_) fun _=>?_
 ·exact⟨h.w,h.h,h.x,h.y,zMp h.l,h.t,h.b,h.sx,h.sy,h.n,h.c,h.m⟩
 refine zAq (fun hb=>?_) fun _=>?_
 ·refine zAq (fun hb=>?_) fun _=>?_
  ·have:=zAU (a:=s.h) (b:=yx la 1 s.h)
   exact⟨h.w,h.h,by simp only;omega,by simp only;omega,h.l,by simp only;omega,by simp only;omega,h.sx,h.sy,h.n,h.c,h.m⟩
  ·exact h
 ·exact h
def acI(a:PV):Prop:=∃(k n:Int) (p:Bool) (la:List PV) (t:List UInt8),a=acV k n p la t∧1≤k∧k≤5∧(k=1→32≤n∧n≤1114111∧n≠127∧¬(55296≤n∧n≤57343))∧0≤n∧n≤1114111∧la.length≤8∧(∀e∈la,∃m,e=.int .i64 m∧-1≤m∧m≤9999)∧t.length≤40
theorem doA_I{s:SC}(h:ScI s){a:PV}(ha:acI a):ScI (doA s a.A):=by
 obtain⟨k,n,p,la,t,rfl,k1,k2,k3,n1,n2,l8,h8,t4⟩:=ha
 unfold doA acV
 simp only[zBp,zF,zK,zAS,zNj,zCk,zCt]
 refine zAq (fun hk=>?_) fun _=>?_
 ·exact prt_I h (k3 hk)
 refine zAq (fun hk=>?_) fun _=>?_
 ·exact ctl_I h _
 refine zAq (fun hk=>?_) fun _=>?_
 ·exact esc_I h _
 refine zAq (fun hk=>?_) fun _=>?_
 ·refine zAq (fun hk=>?_) fun _=>?_
  ·exact h
  ·exact csi_I h _ _
 refine zAq (fun hk=>?_) fun _=>?_
 ·exact⟨h.w,h.h,h.x,h.y,h.l,h.t,h.b,h.sx,h.sy,h.n,h.c,h.m⟩
 ·exact h
theorem zQW:∀{la:List PV} {s:SC},ScI s→(∀a∈la,acI a)→ScI (doL s la)
 | [],_,h,_=>h
 | a :: la,s,h,ha=>zQW (la:=la) (doA_I h (ha a (List.mem_cons_self ..))) fun b hb=>ha b (List.mem_cons_of_mem _ hb)
end
section
variable [ze]
def PG(r:PR × List PV):Prop:=zD4 r.1∧(∀a∈r.2,acI a)∧r.2.length≤2
theorem zAh{c:Prop}[Decidable c]{a b:PR × List PV}(h1:c→PG a)(h2:¬c→PG b):PG (if c then a else b):=by
 by_cases h:c
 ·rw[if_pos h];exact h1 h
 ·rw[if_neg h];exact h2 h
theorem PG.none{p:PR}(h:zD4 p):PG (p,[]):=⟨h,fun a ha=>(by cases ha),by simp⟩
theorem PG.one{p:PR}(h:zD4 p){a:PV}(ha:acI a):PG (p,[a]):=⟨h,fun b hb=>by rw[List.mem_singleton.1 hb];exact ha,by simp⟩
theorem zTS{b:Int}(h:zJy b=true):acI (acV 2 b false [] []):=by
 simp only[zJy,Bool.or_eq_true,beq_iff_eq] at h
 exact⟨2,b,false,[],[],rfl,by omega,by omega,by omega,by omega,by omega,by simp,by simp,by simp⟩
theorem acI_e{b:Int}(h:zS2 b=true):acI (acV 3 b false [] []):=by
 simp only[zS2,Bool.or_eq_true,beq_iff_eq] at h
 exact⟨3,b,false,[],[],rfl,by omega,by omega,by omega,by omega,by omega,by simp,by simp,by simp⟩
theorem zO0{b:Int}(h:32≤b∧b≤1114111∧b≠127∧¬(55296≤b∧b≤57343)):acI (acV 1 b false [] []):=
 ⟨1,b,false,[],[],rfl,by omega,by omega,fun _=>h,by omega,by omega,by simp,by simp,by simp⟩
theorem zTR{t:List UInt8}(h:t.length≤40):acI (acV 5 0 false [] t):=
 ⟨5,0,false,[],t,rfl,by omega,by omega,by omega,by omega,by omega,by simp,by simp,h⟩
theorem u8_n{b:Int}(h:0≤b∧b≤255):((u8 b).toNat:Int)=b:=by
 have e:IntKind.u8.wrap b=b:=by simp[IntKind.wrap,IntKind.signed,IntKind.bits];omega
 have q:b.toNat % 256=b.toNat:=Nat.mod_eq_of_lt (by omega)
 rw[u8,e]
 simp only[UInt8.toNat_ofNat',Nat.reducePow]
 omega
theorem zMX{p:PR}(h:zD4 p){b:Int}(hb:0≤b∧b≤255):PG (zBf p b):=by
 unfold zBf
 refine zAh (fun _=>.none (h.st (by decide) (by decide))) fun _=>?_
 refine zAh (fun q=>.one h (zTS q)) fun _=>?_
 refine zAh (fun q=>.one h (zO0 ?_)) fun _=>?_
 ·have:=zER.1 q;omega
 refine zAh (fun _=>.none h) fun _=>?_
 refine zAh (fun q=>.none ⟨fun e=>absurd (show(6:Int)=2 from e) (by decide),h.a,h.l,fun _=>?_,h.t⟩) fun _=>.one h (zO0 (by omega))
 have e:=u8_n hb
 refine⟨rfl,?_,by simp⟩
 simp only[zDY,e,List.length_singleton]
 omega
theorem zKo{p:PR}(h:zD4 p){b:Int}:PG (zBl p b):=by
 unfold zBl
 refine zAh (fun _=>.none ⟨fun _=>by simp,fun e he=>⟨-1,by simpa using he,by omega,by omega⟩,by simp,fun e=>absurd (show(2:Int)=6 from e) (by decide),h.t⟩) fun _=>?_
 refine zAh (fun _=>.none (h.st (by decide) (by decide))) fun _=>?_
 refine zAh (fun _=>.none h) fun _=>?_
 exact zAh (fun q=>.one .g (acI_e q)) fun _=>.none .g
theorem zSV{p:PR}(h:zD4 p){b:Int}:PG (zPr p b):=by
 unfold zPr
 refine zAh (fun _=>.none (h.st (by decide) (by decide))) fun _=>?_
 exact zAh (fun q=>.none .g) fun _=>.none h
theorem osc_G{p:PR}(h:zD4 p){b:Int}:PG (zPV p b):=by
 unfold zPV
 refine zAh (fun _=>.one .g (zTR h.t)) fun _=>?_
 refine zAh (fun _=>.none (h.st (by decide) (by decide))) fun _=>?_
 refine zAh (fun q=>.none ⟨h.s,h.a,h.l,h.u,?_⟩) fun _=>.none h
 simp;omega
theorem zOC{p:PR}(h:zD4 p){b:Int}:PG (zEs p b):=by
 unfold zEs
 exact zAh (fun _=>.one .g (zTR h.t)) fun _=>zKo (zD4.g.st (by decide) (by decide))
theorem zQY(a b:Int)(hb:48≤b∧b≤57):0≤zR8 a b∧zR8 a b≤9999:=by
 unfold zR8
 split<;>split<;>omega
theorem zTI{p:PR}(h:zD4 p)(hs:p.st=2){b:Int}(hb:0≤b∧b≤255):PG (zJz p b):=by
 have hu:¬(2:Int)=6:=by decide
 unfold zJz
 refine zAh (fun _=>.none (zD4.g.st (by decide) (by decide))) fun _=>?_
 refine zAh (fun q=>.one h (zTS q)) fun _=>?_
 refine zAh (fun q=>.none ⟨fun _=>?_,fun e he=>?_,by simpa using h.l,h.u,h.t⟩) fun _=>?_
 ·have:=h.s hs
  simpa using this
 ·rcases List.mem_or_eq_of_mem_set he with z | z
  ·exact h.a e z
  ·have:=zQY (nth p.args (p.args.length - 1)).I b (zER.1 q)
   exact⟨_,z,by omega,by omega⟩
 refine zAh (fun q=>.none ⟨fun _=>by simp,fun e he=>?_,?_,h.u,h.t⟩) fun _=>?_
 ·rcases List.mem_append.1 he with z | z
  ·exact h.a e z
  ·exact⟨-1,by simpa using z,by omega,by omega⟩
 ·simp;omega
 refine zAh (fun q=>.none ⟨h.s,h.a,h.l,h.u,h.t⟩) fun _=>?_
 refine zAh (fun q=>.one .g ?_) fun _=>.none (zD4.g.st (by decide) (by decide))
 have q:=zER.1 q
 exact⟨4,b,p.priv,p.args,[],rfl,by omega,by omega,by omega,by omega,by omega,h.l,h.a,by simp⟩
theorem zJY{h:Int}:(zOL h=2→194≤h∧h≤223)∧(zOL h=3→224≤h∧h≤239)∧(zOL h=4→240≤h∧h≤244):=by
 unfold zOL
 split
 ·omega
 split
 ·rename_i q;have:=zER.1 q;omega
 split
 ·rename_i q;have:=zER.1 q;omega
 split
 ·rename_i q;have:=zER.1 q;omega
 ·omega
theorem zPy{t:List UInt8}(hf:zFP t=true)(hl:(t.length:Int)=zDY t)(h2:2≤t.length):128≤zBy t∧zBy t≤1114111∧¬(55296≤zBy t∧zBy t≤57343):=by
 match t,hf,hl,h2 with
 | [a,b],hf,hl,_=>
  have:=(zJY (h:=a.toNat)).1 hl.symm
  simp only[zFP,zHw,Bool.and_true,zER] at hf
  have e:zBy [a,b]=((a.toNat:Int) - 192)*64+b.toNat - 128:=rfl
  have l1:128≤loF a.toNat 1:=by unfold loF;split<;>(try split)<;>(try split)<;>omega
  have l2:hiF a.toNat 1≤191:=by unfold hiF;split<;>(try split)<;>(try split)<;>omega
  omega
 | [a,b,c],hf,hl,_=>
  have:=(zJY (h:=a.toNat)).2.1 hl.symm
  simp only[zFP,zHw,Bool.and_true,zER,Bool.and_eq_true] at hf
  have e:zBy [a,b,c]=(((a.toNat:Int) - 224)*64+b.toNat - 128)*64+c.toNat - 128:=rfl
  have l1:128≤loF a.toNat 1∧((a.toNat:Int)=224→loF a.toNat 1=160):=by unfold loF;rw[if_pos rfl];split<;>(try split)<;>omega
  have l2:hiF a.toNat 1≤191∧((a.toNat:Int)=237→hiF a.toNat 1=159):=by unfold hiF;rw[if_pos rfl];split<;>(try split)<;>omega
  have l3:loF a.toNat 2=128:=rfl
  have l4:hiF a.toNat 2=191:=rfl
  rw[l3,l4] at hf
  by_cases e1:(a.toNat:Int)=224
  ·have:=l1.2 e1;omega
  ·by_cases e2:(a.toNat:Int)=237
   ·have:=l2.2 e2;omega
   ·omega
 | [a,b,c,d],hf,hl,_=>
  have:=(zJY (h:=a.toNat)).2.2 hl.symm
  simp only[zFP,zHw,Bool.and_true,zER,Bool.and_eq_true] at hf
  have e:zBy [a,b,c,d]=((((a.toNat:Int) - 240)*64+b.toNat - 128)*64+c.toNat - 128)*64+d.toNat - 128:=rfl
  have l1:128≤loF a.toNat 1∧((a.toNat:Int)=240→loF a.toNat 1=144):=by unfold loF;rw[if_pos rfl];split<;>(try split)<;>omega
  have l2:hiF a.toNat 1≤191∧((a.toNat:Int)=244→hiF a.toNat 1=143):=by unfold hiF;rw[if_pos rfl];split<;>(try split)<;>omega
  have l3:loF a.toNat 2=128:=rfl
  have l4:hiF a.toNat 2=191:=rfl
  have l5:loF a.toNat 3=128:=rfl
  have l6:hiF a.toNat 3=191:=rfl
  rw[l3,l4,l5,l6] at hf
  by_cases e1:(a.toNat:Int)=240
  ·have:=l1.2 e1;omega
  ·by_cases e2:(a.toNat:Int)=244
   ·have:=l2.2 e2;omega
   ·omega
 | a :: b :: c :: d :: e :: r,hf,hl,_=>
  have:=zKL (t:=a :: b :: c :: d :: e :: r)
  simp only[List.length_cons] at hl
  omega
theorem zMC{t s:List UInt8}(h:t≠[]):zDY (t++s)=zDY t:=by
 cases t with
 | nil=>exact absurd rfl h
 | cons a l=>rfl
theorem utf_G{p:PR}(h:zD4 p)(hs:p.st=6){b:Int}(hb:0≤b∧b≤255):PG (zPm p b):=by
 obtain⟨u1,u2,u3⟩:=h.u hs
 unfold zPm
 refine zAh (fun _=>?_) fun hf=>?_
 ·obtain⟨q1,q2,q3⟩:=zMX .g hb
  have hl:(zBf PR.g b).2.length≤1:=by
   unfold zBf
   repeat' split
   all_goals simp
  refine⟨q1,fun a ha=>?_,by simp only[List.length_cons];omega⟩
  rcases List.mem_cons.1 ha with z | z
  ·rw[z];exact zO0 (by omega)
  ·exact q2 a z
 have hf:zFP (p.utf++[u8 b])=true:=by simpa using hf
 have hl:1≤p.utf.length:=List.length_pos_iff.2 u3
 refine zAh (fun q=>.none ⟨fun e=>absurd (show p.st=2 from e) (by omega),h.a,h.l,fun _=>⟨hf,q,by simp⟩,h.t⟩) fun q=>.one .g (zO0 ?_)
 have hz:=zMC (s:=[u8 b]) u3
 have hn:(p.utf++[u8 b]).length=p.utf.length+1:=by simp
 have:=zPy hf (by omega) (by omega)
 omega
theorem zL6{p:PR}(h:zD4 p){b:Int}(hb:0≤b∧b≤255):PG (zD7 p b):=by
 unfold zD7
 refine zAh (fun _=>zKo h) fun _=>?_
 refine zAh (fun q=>zTI h q hb) fun _=>?_
 refine zAh (fun _=>zSV h) fun _=>?_
 refine zAh (fun _=>osc_G h) fun _=>?_
 refine zAh (fun _=>zOC h) fun _=>?_
 exact zAh (fun q=>utf_G h q hb) fun _=>zMX h hb
theorem zHi:∀{l:List UInt8} {p:PR} {acc:List PV},zD4 p→(∀a∈acc,acI a)→zD4 (zAs p l acc).1∧(∀a∈(zAs p l acc).2,acI a)∧(zAs p l acc).2.length≤acc.length+2*l.length
 | [],_,_,h,ha=>⟨h,ha,by simp[zAs]⟩
 | b :: l,p,acc,h,ha=>by
  have hb:(b.toNat:Int)≤255:=by have:=b.toNat_lt;omega
  obtain⟨q1,q2,q3⟩:=zL6 h (b:=b.toNat) ⟨by omega,hb⟩
  obtain⟨r1,r2,r3⟩:=zHi (l:=l) (p:=(zD7 p b.toNat).1) (acc:=acc++(zD7 p b.toNat).2) q1 fun a hm=>(List.mem_append.1 hm).elim (ha a) (q2 a)
  rw[zAs]
  refine⟨r1,r2,?_⟩
  simp only[List.length_append,List.length_cons] at r3 ⊢
  omega
end
section
variable [ze]
theorem zJF:lk zx 99=none:=rfl
def z9:zP:=⟨[(.rd,.list (.int .i64))],[.str],true,fun ps=>0 < (nth ps 0).L.length∧(nth ps 0).L.length≤1048576∧∀e∈(nth ps 0).L,-1≤e.I∧e.I≤1073741824,fun ps=>[.str (zAy (nth ps 0).L)],fun _=>[]⟩
theorem zJg:yQ Try.prog 35 z9:=by
 refine zHP [0,2,3,5,6,7,8] [.tmp 2] _ bG (zA (cs:=[]) zEv (zG (zD []))) zb Try.func35 rfl (by decide) rfl (by decide) rfl ?_
 intro ps hT hpre W hW hB
 simp only[z9,TyA,Ty,Tys] at hT hpre
 obtain⟨_,_,rfl,⟨es,rfl,hes,tes⟩,rfl⟩:=hT
 simp only[zF,zCk] at hpre
 obtain⟨hp0,hp1,hp2⟩:=hpre
 refine hW.vc [] _ _ ?_
 simp[-List.getD_eq_getElem?_getD,z9,zU]
 refine hB.bld _ _ _ _ _ ?_
 simp[-List.getD_eq_getElem?_getD,z9,zU,zNl,zFO,zOv,zOw,zNk,zH2]
 refine hW.vc [] _ _ ?_
 simp[-List.getD_eq_getElem?_getD,z9,zU]
 refine fun h0=>hW.loopS _ _ _ [.bl 3,.sl 8 .dp (.int .i64)] (fun ys=>∃i:Nat,ys=[.str (zAy (es.take i)),.int .i64 i]∧i≤es.length) (fun ys=>es.length - (nth ys 1).I.toNat) ?_ ?_
 ·simp[-List.getD_eq_getElem?_getD,z9,zU]
  exact⟨0,⟨by simp[zAy],rfl⟩,by omega⟩
 ·rintro ys ⟨i,rfl,h1⟩
  refine hW.vc [] _ _ ?_
  simp[-List.getD_eq_getElem?_getD,z9,zU]
  refine⟨fun h2=>⟨h2,fun _=>?_⟩,fun h2=>?_⟩
  ·have h3:=hp2 _ (yJ h2)
   rw[zC (n:=(nth es i).I+1) (by omega)]
   refine⟨by omega,hB.bld _ _ _ _ _ ?_⟩
   simp[-List.getD_eq_getElem?_getD,z9,zU,zNl,zFO,zOv,zOw,zNk,zH2]
   refine⟨by rw[zAM,yn,List.length_take];omega,?_⟩
   refine hW.vc [] _ _ ?_
   simp[-List.getD_eq_getElem?_getD,z9,zU]
   rw[zC (n:=(i:Int)+1) (by omega)]
   exact⟨⟨i+1,⟨by rw[zHG h2],by omega⟩,by omega⟩,by omega⟩
  ·rw[List.take_of_length_le h2]
   refine hB.bld _ _ _ _ _ ?_
   simp[-List.getD_eq_getElem?_getD,z9,zU,zNl,zFO,zOv,zOw,zNk,zH2]
   have h4:=zAM es
   refine⟨by omega,?_⟩
   refine hW.vc [] _ _ ?_
   simp[-List.getD_eq_getElem?_getD,z9,zU]
def zGH(s:List UInt8):Bool:=decide (s.length > 20000)
def zA4:zP:=⟨[(.rd,.str)],[.bool],true,fun _=>True,fun ps=>[.bool (zGH (nth ps 0).S)],fun _=>[]⟩
theorem zJl:yQ Try.prog 74 zA4:=by
 refine zf [0,2] [.tmp 2] (zG (zD [])) zb Try.func74 rfl (by decide) rfl (by decide) rfl ?_
 intro ps hT hpre W hW
 simp only[zA4,TyA,Ty,Tys] at hT hpre
 obtain⟨_,_,rfl,⟨l,rfl,hl⟩,rfl⟩:=hT
 refine hW.vc [] _ _ ?_
 simp[-List.getD_eq_getElem?_getD,zA4]
 exact fun _=>by unfold zGH;congr 1;simp only[eq_iff_iff];omega
def z5:zP:=⟨[(.rd,.list .str),(.rd,.fn 74 [])],[.int .i64],true,fun ps=>True,fun ps=>[.int .i64 (zES (fun e=>zGH e.S) 0 (nth ps 0).L)],fun _=>[]⟩
theorem zC0:yQ Try.prog 92 z5:=by
 refine zf [0,1,4,5,7,8] [.tmp 4] (zA (cs:=[]) zJl (zG (zD []))) zb Try.func92 rfl (by decide) rfl (by decide) rfl ?_
 intro ps hT hpre W hW
 simp only[z5,TyA,Ty,Tys] at hT hpre
 obtain⟨_,_,rfl,⟨es,rfl,he,hes⟩,_,_,rfl,⟨_,rfl,rfl⟩,rfl⟩:=hT
 refine hW.vc [] _ _ ?_
 simp[-List.getD_eq_getElem?_getD,z5,zA4]
 intro h1
 refine hW.loopS _ _ _ [.sl 8 .dp (.int .i64)] (fun ys=>∃i:Nat,ys=[.int .i64 i]∧i≤es.length∧zES (fun e=>zGH e.S) 0 es=zES (fun e=>zGH e.S) i (es.drop i)) (fun ys=>es.length - (nth ys 0).I.toNat) ?_ ?_
 ·simp[-List.getD_eq_getElem?_getD,z5,zA4]
  exact⟨0,rfl,by simp,by simp⟩
 ·rintro ys ⟨i,rfl,h2,h3⟩
  refine hW.vc [] _ _ ?_
  simp[-List.getD_eq_getElem?_getD,z5,zA4]
  refine⟨fun h4=>⟨h4,fun _=>⟨fun h5=>?_,fun h5=>?_⟩⟩,fun h4=>?_⟩
  ·rw[h3,zBC h4];simp[zES,h5]
  ·rw[zC (by omega)]
   refine⟨⟨i+1,by omega,by omega,?_⟩,by omega⟩
   rw[h3,zBC h4];simp[zES,h5]
  ·rw[h3,List.drop_eq_nil_of_le h4];rfl
def zI:zP:=⟨[(.rd,.list .str),(.rd,.fn 74 [])],[.bool],true,fun ps=>True,fun ps=>[.bool ((nth ps 0).L.any (fun e=>zGH e.S))],fun _=>[]⟩
theorem zCB:yQ Try.prog 73 zI:=by
 refine zf [0,1,4] [.tmp 4] (zA (cs:=[74]) zC0 (zG (zD []))) zb Try.func73 rfl (by decide) rfl (by decide) rfl ?_
 intro ps hT hpre W hW
 simp only[zI,TyA,Ty,Tys] at hT hpre
 obtain⟨_,_,rfl,⟨es,rfl,he,hes⟩,_,_,rfl,⟨_,rfl,rfl⟩,rfl⟩:=hT
 refine hW.vc [] _ _ ?_
 simp[-List.getD_eq_getElem?_getD,zI,z5]
 exact zGW (fun e=>zGH e.S) es 0
def zCc(es:List PV):List UInt8 × Int:=if es.length > 60 then ([],6) else if es.any (fun e=>zGH e.S)=true then ([],4) else if (yS es).length > 65536 then ([],7) else (yS es,0)
def yC:zP:=⟨[(.rd,.list .str)],[.str,.int .i64],true,fun _=>True,fun ps=>[.str (zCc (nth ps 0).L).1,.int .i64 (zCc (nth ps 0).L).2],fun _=>[]⟩
theorem zLY:yQ Try.prog 61 yC:=by
 refine zHP [0,2,3,4,6,16,17,18] [.tmp 2,.tmp 3] _ bG (zA (cs:=[74]) zCB (zA (cs:=[]) zEv (zG (zD [])))) zb Try.func61 rfl (by decide) rfl (by decide) rfl ?_
 intro ps hT hpre W hW hB
 simp only[yC,TyA,Ty,Tys] at hT hpre
 obtain⟨_,_,rfl,⟨es,rfl,hes,tes⟩,rfl⟩:=hT
 refine hW.vc [] _ _ ?_
 simp[-List.getD_eq_getElem?_getD,yC,zU,zI,zJF]
 refine fun h0=>⟨fun h1=>?_,fun h1=>⟨fun x hx hx2=>?_,fun h2=>?_⟩⟩
 ·rw[zCc,if_pos (by omega)];simp
 ·rw[zCc,if_neg (by omega),if_pos (by simp only[List.any_eq_true];exact⟨x,hx,hx2⟩)];simp
 ·refine hB.bld _ _ _ _ _ ?_
  simp[-List.getD_eq_getElem?_getD,yC,zU,zI,zNl,zFO,zOv,zOw,zNk,zH2]
  refine hW.vc [] _ _ ?_
  simp[-List.getD_eq_getElem?_getD,yC,zU,zI,zJF]
  refine fun _=>hB.bld _ _ _ _ _ ?_
  simp[-List.getD_eq_getElem?_getD,yC,zU,zI,zNl,zFO,zOv,zOw,zNk,zH2]
  refine hW.vc [] _ _ ?_
  simp[-List.getD_eq_getElem?_getD,yC,zU,zI,zJF]
  refine fun _=>hW.loopS _ _ _ [.bl 4,.sl 18 .dp (.int .i64)] (fun ys=>∃i:Nat,ys=[.str (yF es.length :: (es.take i).flatMap fun e=>nB e.S.length 2++e.S),.int .i64 i]∧i≤es.length) (fun ys=>es.length - (nth ys 1).I.toNat) ?_ ?_
  ·simp[-List.getD_eq_getElem?_getD,yC,zU,zI]
   exact⟨0,⟨by simp[zDA],rfl⟩,by omega⟩
  ·rintro ys ⟨i,rfl,h3⟩
   have hlen:((es.take i).flatMap fun e=>nB e.S.length 2++e.S).length≤60*20002:=by
    refine Nat.le_trans (zFc (k:=20000) fun e he=>?_) (Nat.mul_le_mul_right _ (by rw[List.length_take];omega))
    have:=h2 e (List.mem_of_mem_take he)
    simpa[zGH] using this
   refine hW.vc [] _ _ ?_
   simp[-List.getD_eq_getElem?_getD,yC,zU,zI,zJF]
   refine⟨fun h4=>⟨h4,fun _=>?_⟩,fun h4=>?_⟩
   ·have h5:(nth es i).S.length≤20000:=by
     have:=h2 _ (yJ h4)
     simpa[zGH] using this
    refine fun _=>⟨by rw[yn];omega,hB.bld _ _ _ _ _ ?_⟩
    simp[-List.getD_eq_getElem?_getD,yC,zU,zI,zNl,zFO,zOv,zOw,zNk,zH2,-List.length_flatMap]
    refine⟨by rw[yn];omega,?_⟩
    refine hW.vc [] _ _ ?_
    simp[-List.getD_eq_getElem?_getD,yC,zU,zI,zJF]
    rw[zC (n:=(i:Int)+1) (by omega)]
    refine⟨⟨i+1,⟨by rw[zFI 0 h4],by omega⟩,by omega⟩,by omega⟩
   ·rw[List.take_of_length_le h4] at hlen ⊢
    have hX:yS es=yF es.length :: es.flatMap fun e=>nB e.S.length 2++e.S:=rfl
    rw[←hX]
    have hne:yS es≠[]:=by rw[hX];simp
    have hL:(yS es).length≤1300000:=by rw[hX,List.length_cons];omega
    have hR:zCc es=if (yS es).length > 65536 then ([],7) else (yS es,0):=by
     rw[zCc,if_neg (by omega),if_neg]
     rw[List.any_eq_true]
     rintro⟨x,hx,hx2⟩
     rw[h2 x hx] at hx2;cases hx2
    clear hX
    generalize yS es=X at *
    refine hB.bld _ _ _ _ _ ?_
    simp[-List.getD_eq_getElem?_getD,yC,zU,zI,zNl,zFO,zOv,zOw,zNk,zH2]
    refine hW.vc [] _ _ ?_
    simp[-List.getD_eq_getElem?_getD,yC,zU,zI,zJF]
    refine⟨fun h6=>by rw[hR,if_pos (by omega)];simp,fun h6=>?_⟩
    refine hB.bld _ _ _ _ _ ?_
    simp[-List.getD_eq_getElem?_getD,yC,zU,zI,zNl,zFO,zOv,zOw,zNk,zH2]
    refine⟨by omega,?_⟩
    refine hW.vc [] _ _ ?_
    simp[-List.getD_eq_getElem?_getD,yC,zU,zI,zJF]
    rw[hR,if_neg (by omega)];simp
def zDU:zP:=⟨[(.rd,.list .str)],[.str],true,fun _=>True,fun ps=>[.str (zCc (nth ps 0).L).1],fun _=>[]⟩
theorem zOa:yQ Try.prog 38 zDU:=by
 refine zf [0,2,3] [.tmp 2] (zA (cs:=[]) zLY (zG (zD []))) zb Try.func38 rfl (by decide) rfl (by decide) rfl ?_
 intro ps hT hpre W hW
 simp only[zDU,TyA,Ty,Tys] at hT hpre
 obtain⟨_,_,rfl,⟨es,rfl,hes,tes⟩,rfl⟩:=hT
 refine hW.vc [] _ _ ?_
 simp[-List.getD_eq_getElem?_getD,zDU,yC]
theorem zIE{n f w h:Int}{u:Bool}{es:List PV}(hv:zBd [.int .i64 n,.int .i64 f,.bool u,.int .i64 w,.int .i64 h,.list es]=true):(zCc (.str (zAy [.int .i64 n,.int .i64 f,.int .i64 (zGo u),.int .i64 w,.int .i64 h]) :: es.map fun e=>.str (nB (nth e.A 0).I 1++(nth e.A 1).S))).1=zDW ⟨n,f,u,w,h,es⟩:=by
 obtain⟨g1,g2,g3,g4⟩:=zD6 hv
 have hl:=zID hv
 unfold zDW at hl ⊢
 unfold zCc
 rw[if_neg (by simp;omega),if_neg,if_neg (by simp only at hl ⊢;omega)]
 rw[List.any_eq_true]
 rintro⟨x,hx,hx2⟩
 have:x.S.length≤97:=by
  rcases List.mem_cons.1 hx with rfl | hx
  ·rw[zCt,zAM];simp
  ·obtain⟨e,he,rfl⟩:=List.mem_map.1 hx
   have:=(zKG g2 e he).2
   simp only[zCt,List.length_append,yn];omega
 simp only[zGH,decide_eq_true_eq] at hx2
 omega
def zAF:zP:=zp
theorem zHK:yQ Try.prog 20 zAF:=by
 refine zf [0,1,2,3,5,21,22,23] [.tmp 2] (zA (cs:=[]) k_bit (zA (cs:=[]) zOa (zA (cs:=[]) zEv (zA (cs:=[]) zJg (zG (zD [])))))) zb Try.func20 rfl (by decide) rfl (by decide) rfl ?_
 intro ps hT hpre W hW
 simp only[zAF,TyA,Ty,Tys] at hT hpre
 simp only[zp,TyA,Ty,Tys] at hT hpre
 obtain⟨_,_,rfl,⟨_,rfl,_,_,rfl,⟨n,rfl,hn⟩,_,_,rfl,⟨f,rfl,hf⟩,_,_,rfl,⟨u,rfl⟩,_,_,rfl,⟨w,rfl,hw⟩,_,_,rfl,⟨h,rfl,hh⟩,_,_,rfl,⟨es,rfl,hes,tes⟩,rfl⟩,rfl⟩:=hT
 simp only[zF,zBp] at hpre
 obtain⟨g1,g2,g3,g4⟩:=zD6 hpre
 have hup:=zHX g2
 have hb:-1≤zGo u∧zGo u≤1073741824:=by cases u<;>simp[zGo]
 refine hW.vc [(1,[],tkN [0,1,2,3,4,5,7,8,9,10] (alN [6,11,12,13,14] .done)),(5,[8],tkN [0,1,2,4,5] (alS 3 (tkN [6] (alN [7,8,9] .done))))] _ _ ?_
 simp[-List.getD_eq_getElem?_getD,zAF,z9,zU,zDU,zC8,zp,zp]
 refine⟨by decide +kernel,rfl,⟨by omega,by omega,hb,by omega,by omega⟩,fun h1=>?_⟩
 refine hW.loopS _ _ _ [.sl 3 .dp (.list .str),.sl 23 .dp (.int .i64)] (fun ys=>∃i:Nat,ys=[.list (.str (zAy [.int .i64 n,.int .i64 f,.int .i64 (zGo u),.int .i64 w,.int .i64 h]) :: (es.take i).map fun e=>.str (nB (nth e.A 0).I 1++(nth e.A 1).S)),.int .i64 i]∧i≤es.length) (fun ys=>es.length - (nth ys 1).I.toNat) ?_ ?_
 ·simp[-List.getD_eq_getElem?_getD,zAF,z9,zU,zDU,zC8,zp,zC8]
  exact⟨0,⟨by simp,rfl⟩,by omega⟩
 ·rintro ys ⟨i,rfl,h2⟩
  refine hW.vc [(1,[],tkN [0,1,2,3,4,5,7,8,9,10] (alN [6,11,12,13,14] .done)),(5,[8],tkN [0,1,2,4,5] (alS 3 (tkN [6] (alN [7,8,9] .done))))] _ _ ?_
  simp[-List.getD_eq_getElem?_getD,zAF,z9,zU,zDU,zC8,zp,zC8]
  rw[zC (n:=(i:Int)+1) (by omega)]
  refine⟨fun h3=>⟨h3,fun _ _ _=>⟨by decide +kernel,(hup i h3).1.1,?_,by omega,fun _=>⟨⟨i+1,⟨?_,by omega⟩,by omega⟩,by omega⟩⟩⟩,fun h3=>?_⟩
  ·have:=(hup i h3).2
   rw[yn];omega
  ·rw[zAe (by simpa using h3),zHm _ _ _ h3,zB9 h3]
  ·rw[List.take_of_length_le (by simpa using h3),zIE hpre]
def zBL:zP:={ yg with }
theorem zIp:yQ Try.prog 8 zBL:=by
 refine zf [0,1,2,3] [.tmp 2,.tmp 3] (zA (cs:=[]) zHK (zA (cs:=[]) zKh (zG (zD [])))) zb Try.func8 rfl (by decide) rfl (by decide) rfl ?_
 intro ps hT hpre W hW
 simp only[zBL,TyA,Ty,Tys] at hT hpre
 simp only[yg,TyA,Ty,Tys] at hT hpre
 obtain⟨_,_,rfl,⟨_,rfl,_,_,rfl,⟨n,rfl,hn⟩,_,_,rfl,⟨f,rfl,hf⟩,_,_,rfl,⟨u,rfl⟩,_,_,rfl,⟨w,rfl,hw⟩,_,_,rfl,⟨h,rfl,hh⟩,_,_,rfl,⟨es,rfl,hes,tes⟩,rfl⟩,rfl⟩:=hT
 refine hW.vc [] _ _ ?_
 simp[-List.getD_eq_getElem?_getD,zBL,yA,zAF,yg,zp,yA,zp,yg]
 exact⟨fun q=>by rw[zSP (v:=⟨n,f,u,w,h,es⟩) q];simp,fun q=>⟨q,by rw[zL1 (v:=⟨n,f,u,w,h,es⟩) q];simp⟩⟩
end
section
variable [ze]
def rvP(r:PR × List PV)(out:List PV):PV:=r.1.rv (out++r.2)
def zBW:zP:=⟨[(.bx,.box [.int .i64,.list (.int .i64),.bool,.str,.str,.list (.agg [.int .i64,.int .i64,.bool,.list (.int .i64),.str])])],[],true,fun _=>True,fun _=>[],fun ps=>[PR.g.rv (nth (nth ps 0).A 5).L]⟩
theorem zDJ:yQ Try.prog 93 zBW:=by
 refine zf [0] [] (zG (zD [])) zb Try.func93 rfl (by decide) rfl (by decide) rfl ?_
 intro ps hT hpre W hW
 simp only[zBW,TyA,Ty,Tys] at hT hpre
 obtain⟨_,_,rfl,⟨_,rfl,_,_,rfl,⟨st,rfl,hst⟩,_,_,rfl,⟨ag,rfl,hag,tag⟩,_,_,rfl,⟨pr,rfl⟩,_,_,rfl,⟨tx,rfl,htx⟩,_,_,rfl,⟨ut,rfl,hut⟩,_,_,rfl,⟨out,rfl,hout,tout⟩,rfl⟩,rfl⟩:=hT
 refine hW.vc [] _ _ ?_
 simp[-List.getD_eq_getElem?_getD,zBW,PR.rv,PR.g]
def zBV:zP:=⟨[(.bx,.box [.int .i64,.list (.int .i64),.bool,.str,.str,.list (.agg [.int .i64,.int .i64,.bool,.list (.int .i64),.str])]),(.ow,.agg [.int .i64,.int .i64,.bool,.list (.int .i64),.str])],[],true,fun ps=>(nth (nth ps 0).A 5).L.length≤1000000,fun _=>[],
 fun ps=>[(zCZ (nth ps 0).A).rv ((nth (nth ps 0).A 5).L++[.agg [nth (nth ps 1).A 0,nth (nth ps 1).A 1,nth (nth ps 1).A 2,nth (nth ps 1).A 3,nth (nth ps 1).A 4]])]⟩
theorem zDI:yQ Try.prog 94 zBV:=by
 refine zf [0,1,3] [] (zG (zD [])) zb Try.func94 rfl (by decide) rfl (by decide) rfl ?_
 intro ps hT hpre W hW
 simp only[zBV,TyA,Ty,Tys] at hT hpre
 obtain⟨_,_,rfl,⟨_,rfl,_,_,rfl,⟨st,rfl,hst⟩,_,_,rfl,⟨ag,rfl,hag,tag⟩,_,_,rfl,⟨pr,rfl⟩,_,_,rfl,⟨tx,rfl,htx⟩,_,_,rfl,⟨ut,rfl,hut⟩,_,_,rfl,⟨out,rfl,hout,tout⟩,rfl⟩,_,_,rfl,⟨_,rfl,_,_,rfl,⟨k,rfl,hk⟩,_,_,rfl,⟨n,rfl,hn⟩,_,_,rfl,⟨p,rfl⟩,_,_,rfl,⟨es,rfl,hes,tes⟩,_,_,rfl,⟨t,rfl,ht⟩,rfl⟩,rfl⟩:=hT
 simp only[zF,zK,zBp,zCk,zAS] at hpre
 refine hW.vc [(3,[7,10],tkN [0,1,2,3,4,5] (alN [6,7] (tkN [8,9] (alS 10 .done))))] _ _ ?_
 simp[-List.getD_eq_getElem?_getD,zBV,PR.rv,zCZ]
 exact fun _=>⟨fun h=>⟨by decide +kernel,by omega,fun _=>h⟩,fun h=>⟨by decide +kernel,by omega⟩⟩
def zBJ:zP:=⟨[(.rd,.int .i64)],[.bool],true,fun _=>True,fun ps=>[.bool (zJy (nth ps 0).I)],fun _=>[]⟩
theorem zFD:yQ Try.prog 95 zBJ:=by
 refine zf [0,2] [.tmp 2] (zG (zD [])) zb Try.func95 rfl (by decide) rfl (by decide) rfl ?_
 intro ps hT hpre W hW
 simp only[zBJ,TyA,Ty,Tys] at hT hpre
 obtain⟨_,_,rfl,⟨b,rfl,hb⟩,rfl⟩:=hT
 refine hW.vc [] _ _ ?_
 simp[-List.getD_eq_getElem?_getD,zBJ,zJy]
 rw[Bool.eq_iff_iff];simp
def zC6:zP:=⟨[(.rd,.str)],[.int .i64],true,fun _=>True,fun ps=>[.int .i64 (zDY (nth ps 0).S)],fun _=>[]⟩
theorem zIn:yQ Try.prog 97 zC6:=by
 refine zf [0,2,3] [.tmp 2] (zA (cs:=[]) zAJ (zG (zD []))) zb Try.func97 rfl (by decide) rfl (by decide) rfl ?_
 intro ps hT hpre W hW
 simp only[zC6,TyA,Ty,Tys] at hT hpre
 obtain⟨_,_,rfl,⟨t,rfl,ht⟩,rfl⟩:=hT
 refine hW.vc [] _ _ ?_
 simp[-List.getD_eq_getElem?_getD,zC6,zY,zJ]
 cases t with
 | nil=>simp[zDY]
 | cons a l=>
  have ha:=a.toNat_lt
  have w1:IntKind.i64.wrap (a.toNat:Int)=a.toNat:=zC (by omega)
  simp only[List.getD_cons_zero,w1,zDY,zOL]
  refine⟨nofun,fun _=>⟨by simp,fun h=>by rw[if_pos h],fun h=>⟨fun h2=>by rw[if_neg (by omega),if_pos h2],fun h2=>⟨fun h3=>by rw[if_neg (by omega),if_neg (by simp[h2]),if_pos h3],fun h3=>⟨fun h4=>?_,fun h4=>?_⟩⟩⟩⟩⟩
  ·rw[if_neg (by omega),if_neg (by simp[h2]),if_neg (by simp[h3]),if_pos h4]
  ·rw[if_neg (by omega),if_neg (by simp[h2]),if_neg (by simp[h3]),if_neg (by simp[h4])]
def zCJ:zP:=⟨[(.rd,.str)],[.bool],true,fun _=>True,fun ps=>[.bool (zFP (nth ps 0).S)],fun _=>[]⟩
theorem zM1:yQ Try.prog 96 zCJ:=by
 refine zf [0,2,3,4,5,6,20] [.tmp 2] (zA (cs:=[]) zAJ (zG (zD []))) zb Try.func96 rfl (by decide) rfl (by decide) rfl ?_
 intro ps hT hpre W hW
 simp only[zCJ,TyA,Ty,Tys] at hT hpre
 obtain⟨_,_,rfl,⟨t,rfl,ht⟩,rfl⟩:=hT
 refine hW.vc [] _ _ ?_
 simp[-List.getD_eq_getElem?_getD,zCJ,zY,zJ]
 rw[limN] at ht
 refine hW.loopS _ _ _ [.sl 3 .dp (.int .i64)] (fun ys=>∃i:Nat,ys=[.int .i64 i]∧1≤i∧i≤t.length+1∧zFP t=zHw (t.getD 0 0).toNat i (t.drop i)) (fun ys=>t.length+1 - (nth ys 0).I.toNat) ?_ ?_
 ·simp[-List.getD_eq_getElem?_getD,zCJ,zY,zJ]
  refine⟨1,rfl,by omega,by omega,?_⟩
  cases t with
  | nil=>rfl
  | cons a l=>rfl
 ·rintro ys ⟨i,rfl,g0,g1,g2⟩
  have w1:IntKind.i64.wrap ((i:Int)+1)=i+1:=zC (by omega)
  refine hW.vc [] _ _ ?_
  simp[-List.getD_eq_getElem?_getD,zCJ,zY,zJ,w1]
  obtain⟨h0,hh⟩:∃h0:Int,h0=((t.getD 0 0).toNat:Int):=⟨_,rfl⟩
  rw[←hh] at g2 ⊢
  obtain⟨c,hc⟩:∃c,c=t.getD i 0:=⟨_,rfl⟩
  have hc2:=c.toNat_lt
  have wc:IntKind.i64.wrap (c.toNat:Int)=c.toNat:=zC (by omega)
  rw[←hc,wc]
  have key:i < t.length→zFP t=(inB c.toNat (loF h0 i) (hiF h0 i)&&zHw h0 (i+1) (t.drop (i+1))):=fun h=>by
   have e:t.drop i=c :: t.drop (i+1):=by
    rw[hc,List.drop_eq_getElem_cons h];simp[h]
   rw[g2,e,zHw]
  have F:i < t.length→∀lo hi,loF h0 i=lo→hiF h0 i=hi→inB c.toNat lo hi=false→zFP t=false:=fun h lo hi e1 e2 q=>by rw[key h,e1,e2,q,Bool.false_and]
  have G:i < t.length→∀lo hi,loF h0 i=lo→hiF h0 i=hi→inB c.toNat lo hi=true→(∃i_1:Nat,(i:Int)+1=i_1∧1≤i_1∧i_1≤t.length+1∧zFP t=zHw h0 i_1 (t.drop i_1))∧t.length - i < t.length+1 - i:=fun h lo hi e1 e2 q=>
   ⟨⟨i+1,by omega,by omega,by omega,by rw[key h,e1,e2,q,Bool.true_and]⟩,by omega⟩
  refine fun _=>⟨fun h=>⟨h,fun h1=>⟨by omega,fun q=>⟨F h _ _ ?_ ?_,G h _ _ ?_ ?_⟩,fun q=>⟨fun q2=>⟨F h _ _ ?_ ?_,G h _ _ ?_ ?_⟩,fun q2=>⟨fun q3=>⟨F h _ _ ?_ ?_,G h _ _ ?_ ?_⟩,fun q3=>⟨fun q4=>⟨F h _ _ ?_ ?_,G h _ _ ?_ ?_⟩,fun q4=>⟨F h _ _ ?_ ?_,G h _ _ ?_ ?_⟩⟩⟩⟩⟩,fun h1=>⟨F h _ _ ?_ ?_,G h _ _ ?_ ?_⟩⟩,fun h=>?_⟩
  all_goals first
   | (unfold loF;rw[if_neg (by omega)])
   | (unfold hiF;rw[if_neg (by omega)])
   | (unfold loF;rw[if_pos (by omega),if_pos (by assumption)])
   | (unfold hiF;rw[if_pos (by omega),if_pos (by assumption)])
   | (unfold loF;rw[if_pos (by omega),if_neg (by omega),if_pos (by assumption)])
   | (unfold hiF;rw[if_pos (by omega),if_neg (by omega),if_pos (by assumption)])
   | (unfold loF;rw[if_pos (by omega),if_neg (by omega),if_neg (by omega)])
   | (unfold hiF;rw[if_pos (by omega),if_neg (by omega),if_neg (by omega)])
   | (rw[g2,List.drop_eq_nil_of_le h];rfl)
def yp:zP:=⟨[(.rd,.str)],[.int .i64],true,fun ps=>1≤(nth ps 0).S.length∧(nth ps 0).S.length≤4,fun ps=>[.int .i64 (zBy (nth ps 0).S)],fun _=>[]⟩
theorem zM0:yQ Try.prog 98 yp:=by
 refine zf [0,2,3,4,9] [.tmp 2] (zG (zD [])) zb Try.func98 rfl (by decide) rfl (by decide) rfl ?_
 intro ps hT hpre W hW
 simp only[yp,TyA,Ty,Tys] at hT hpre
 obtain⟨_,_,rfl,⟨t,rfl,ht⟩,rfl⟩:=hT
 simp only[zF,zCt] at hpre
 refine hW.vc [] _ _ ?_
 simp[-List.getD_eq_getElem?_getD,yp]
 have t0:t.getD 0 0 :: t.drop 1=t:=by
  cases t with
  | nil=>simp at hpre
  | cons a l=>rfl
 obtain⟨a,ha⟩:∃a,a=t.getD 0 0:=⟨_,rfl⟩
 have ha2:=a.toNat_lt
 rw[←ha] at t0 ⊢
 have hl:(t.drop 1).length=t.length - 1:=List.length_drop ..
 have w0:IntKind.i64.wrap (a.toNat:Int)=a.toNat:=zC (by omega)
 rw[w0]
 rw[zC (n:=(a.toNat:Int) - 192) (by omega),zC (n:=(a.toNat:Int) - 224) (by omega),zC (n:=(a.toNat:Int) - 240) (by omega)]
 refine⟨by omega,fun _=>⟨fun h=>?_,fun h=>⟨fun h2=>?_,fun h2=>⟨fun h3=>?_,fun h3=>?_⟩⟩⟩⟩
 ·obtain⟨N0,hN⟩:∃N0,N0=(a.toNat:Int) - 192:=⟨_,rfl⟩
  have hR:zBy t=zBs N0 (t.drop 1):=by rw[←t0,zBy,hN];congr 1;simp only[List.drop_succ_cons,List.drop_zero,hl];rw[if_pos (by omega)]
  have hN2:-255≤N0∧N0≤255:=by omega
  rw[←hN]
  refine hW.loopS _ _ _ [.sl 3 .dp (.int .i64),.sl 4 .dp (.int .i64)] (fun ys=>∃(i:Nat) (n:Int),ys=[.int .i64 n,.int .i64 i]∧1≤i∧i≤t.length∧zBy t=zBs n (t.drop i)∧(i=1→-255≤n∧n≤255)∧(i=2→-17000≤n∧n≤17000)∧(i=3→-1100000≤n∧n≤1100000)∧(i=4→-80000000≤n∧n≤80000000)) (fun ys=>t.length - (nth ys 1).I.toNat) ?_ ?_
  ·simp[-List.getD_eq_getElem?_getD,yp]
   exact⟨1,N0,⟨rfl,rfl⟩,by omega,by omega,hR,by omega,by omega,by omega,by omega⟩
  ·rintro ys ⟨i,n,rfl,g0,g1,g2,g3,g4,g5,g6⟩
   have w1:IntKind.i64.wrap ((i:Int)+1)=i+1:=zC (by omega)
   refine hW.vc [] _ _ ?_
   simp[-List.getD_eq_getElem?_getD,yp,w1]
   obtain⟨c,hc⟩:∃c,c=t.getD i 0:=⟨_,rfl⟩
   have hc2:=c.toNat_lt
   rw[←hc,zC (n:=(c.toNat:Int)) (by omega),zC (n:=n*64) (by omega),zC (n:=n*64+c.toNat) (by omega),zC (n:=n*64+c.toNat - 128) (by omega)]
   refine fun _=>⟨fun h=>⟨h,⟨i+1,_,⟨rfl,by omega⟩,by omega,by omega,?_,by omega,by omega,by omega,by omega⟩,by omega⟩,fun h=>?_⟩
   ·have e:t.drop i=c :: t.drop (i+1):=by
     rw[hc,List.drop_eq_getElem_cons h];simp[h]
    rw[g2,e,zBs]
   ·rw[g2,List.drop_eq_nil_of_le h];rfl
 ·obtain⟨N0,hN⟩:∃N0,N0=(a.toNat:Int) - 224:=⟨_,rfl⟩
  have hR:zBy t=zBs N0 (t.drop 1):=by rw[←t0,zBy,hN];congr 1;simp only[List.drop_succ_cons,List.drop_zero,hl];rw[if_neg (by omega),if_pos (by omega)]
  have hN2:-255≤N0∧N0≤255:=by omega
  rw[←hN]
  refine hW.loopS _ _ _ [.sl 3 .dp (.int .i64),.sl 4 .dp (.int .i64)] (fun ys=>∃(i:Nat) (n:Int),ys=[.int .i64 n,.int .i64 i]∧1≤i∧i≤t.length∧zBy t=zBs n (t.drop i)∧(i=1→-255≤n∧n≤255)∧(i=2→-17000≤n∧n≤17000)∧(i=3→-1100000≤n∧n≤1100000)∧(i=4→-80000000≤n∧n≤80000000)) (fun ys=>t.length - (nth ys 1).I.toNat) ?_ ?_
  ·simp[-List.getD_eq_getElem?_getD,yp]
   exact⟨1,N0,⟨rfl,rfl⟩,by omega,by omega,hR,by omega,by omega,by omega,by omega⟩
  ·rintro ys ⟨i,n,rfl,g0,g1,g2,g3,g4,g5,g6⟩
   have w1:IntKind.i64.wrap ((i:Int)+1)=i+1:=zC (by omega)
   refine hW.vc [] _ _ ?_
   simp[-List.getD_eq_getElem?_getD,yp,w1]
   obtain⟨c,hc⟩:∃c,c=t.getD i 0:=⟨_,rfl⟩
   have hc2:=c.toNat_lt
   rw[←hc,zC (n:=(c.toNat:Int)) (by omega),zC (n:=n*64) (by omega),zC (n:=n*64+c.toNat) (by omega),zC (n:=n*64+c.toNat - 128) (by omega)]
   refine fun _=>⟨fun h=>⟨h,⟨i+1,_,⟨rfl,by omega⟩,by omega,by omega,?_,by omega,by omega,by omega,by omega⟩,by omega⟩,fun h=>?_⟩
   ·have e:t.drop i=c :: t.drop (i+1):=by
     rw[hc,List.drop_eq_getElem_cons h];simp[h]
    rw[g2,e,zBs]
   ·rw[g2,List.drop_eq_nil_of_le h];rfl
 ·obtain⟨N0,hN⟩:∃N0,N0=(a.toNat:Int) - 240:=⟨_,rfl⟩
  have hR:zBy t=zBs N0 (t.drop 1):=by rw[←t0,zBy,hN];congr 1;simp only[List.drop_succ_cons,List.drop_zero,hl];rw[if_neg (by omega),if_neg (by omega),if_pos (by omega)]
  have hN2:-255≤N0∧N0≤255:=by omega
  rw[←hN]
  refine hW.loopS _ _ _ [.sl 3 .dp (.int .i64),.sl 4 .dp (.int .i64)] (fun ys=>∃(i:Nat) (n:Int),ys=[.int .i64 n,.int .i64 i]∧1≤i∧i≤t.length∧zBy t=zBs n (t.drop i)∧(i=1→-255≤n∧n≤255)∧(i=2→-17000≤n∧n≤17000)∧(i=3→-1100000≤n∧n≤1100000)∧(i=4→-80000000≤n∧n≤80000000)) (fun ys=>t.length - (nth ys 1).I.toNat) ?_ ?_
  ·simp[-List.getD_eq_getElem?_getD,yp]
   exact⟨1,N0,⟨rfl,rfl⟩,by omega,by omega,hR,by omega,by omega,by omega,by omega⟩
  ·rintro ys ⟨i,n,rfl,g0,g1,g2,g3,g4,g5,g6⟩
   have w1:IntKind.i64.wrap ((i:Int)+1)=i+1:=zC (by omega)
   refine hW.vc [] _ _ ?_
   simp[-List.getD_eq_getElem?_getD,yp,w1]
   obtain⟨c,hc⟩:∃c,c=t.getD i 0:=⟨_,rfl⟩
   have hc2:=c.toNat_lt
   rw[←hc,zC (n:=(c.toNat:Int)) (by omega),zC (n:=n*64) (by omega),zC (n:=n*64+c.toNat) (by omega),zC (n:=n*64+c.toNat - 128) (by omega)]
   refine fun _=>⟨fun h=>⟨h,⟨i+1,_,⟨rfl,by omega⟩,by omega,by omega,?_,by omega,by omega,by omega,by omega⟩,by omega⟩,fun h=>?_⟩
   ·have e:t.drop i=c :: t.drop (i+1):=by
     rw[hc,List.drop_eq_getElem_cons h];simp[h]
    rw[g2,e,zBs]
   ·rw[g2,List.drop_eq_nil_of_le h];rfl
 ·obtain⟨N0,hN⟩:∃N0,N0=(a.toNat:Int):=⟨_,rfl⟩
  have hR:zBy t=zBs N0 (t.drop 1):=by rw[←t0,zBy,hN];congr 1;simp only[List.drop_succ_cons,List.drop_zero,hl];rw[if_neg (by omega),if_neg (by omega),if_neg (by omega),Int.sub_zero]
  have hN2:-255≤N0∧N0≤255:=by omega
  rw[←hN]
  refine hW.loopS _ _ _ [.sl 3 .dp (.int .i64),.sl 4 .dp (.int .i64)] (fun ys=>∃(i:Nat) (n:Int),ys=[.int .i64 n,.int .i64 i]∧1≤i∧i≤t.length∧zBy t=zBs n (t.drop i)∧(i=1→-255≤n∧n≤255)∧(i=2→-17000≤n∧n≤17000)∧(i=3→-1100000≤n∧n≤1100000)∧(i=4→-80000000≤n∧n≤80000000)) (fun ys=>t.length - (nth ys 1).I.toNat) ?_ ?_
  ·simp[-List.getD_eq_getElem?_getD,yp]
   exact⟨1,N0,⟨rfl,rfl⟩,by omega,by omega,hR,by omega,by omega,by omega,by omega⟩
  ·rintro ys ⟨i,n,rfl,g0,g1,g2,g3,g4,g5,g6⟩
   have w1:IntKind.i64.wrap ((i:Int)+1)=i+1:=zC (by omega)
   refine hW.vc [] _ _ ?_
   simp[-List.getD_eq_getElem?_getD,yp,w1]
   obtain⟨c,hc⟩:∃c,c=t.getD i 0:=⟨_,rfl⟩
   have hc2:=c.toNat_lt
   rw[←hc,zC (n:=(c.toNat:Int)) (by omega),zC (n:=n*64) (by omega),zC (n:=n*64+c.toNat) (by omega),zC (n:=n*64+c.toNat - 128) (by omega)]
   refine fun _=>⟨fun h=>⟨h,⟨i+1,_,⟨rfl,by omega⟩,by omega,by omega,?_,by omega,by omega,by omega,by omega⟩,by omega⟩,fun h=>?_⟩
   ·have e:t.drop i=c :: t.drop (i+1):=by
     rw[hc,List.drop_eq_getElem_cons h];simp[h]
    rw[g2,e,zBs]
   ·rw[g2,List.drop_eq_nil_of_le h];rfl
def zGk:zP:=⟨[(.bx,.box [.int .i64,.list (.int .i64),.bool,.str,.str,.list (.agg [.int .i64,.int .i64,.bool,.list (.int .i64),.str])]),(.rd,.int .i64)],[],true,fun ps=>(nth (nth ps 0).A 5).L.length≤900000∧0≤(nth ps 1).I∧(nth ps 1).I≤255,fun _=>[],
 fun ps=>[rvP (zBf (zCZ (nth ps 0).A) (nth ps 1).I) (nth (nth ps 0).A 5).L]⟩
theorem zMt:yQ Try.prog 83 zGk:=by
 refine zf [0,1] [] (zA (cs:=[]) zIn (zA (cs:=[]) zAJ (zA (cs:=[]) zDI (zA (cs:=[]) zFD (zG (zD [])))))) zb Try.func83 rfl (by decide) rfl (by decide) rfl ?_
 intro ps hT hpre W hW
 simp only[zGk,TyA,Ty,Tys] at hT hpre
 obtain⟨_,_,rfl,⟨_,rfl,_,_,rfl,⟨st,rfl,hst⟩,_,_,rfl,⟨ag,rfl,hag,tag⟩,_,_,rfl,⟨pr,rfl⟩,_,_,rfl,⟨tx,rfl,htx⟩,_,_,rfl,⟨ut,rfl,hut⟩,_,_,rfl,⟨out,rfl,hout,tout⟩,rfl⟩,_,_,rfl,⟨b,rfl,hb⟩,rfl⟩:=hT
 simp only[zF,zK,zBp,zCk,zAS] at hpre
 refine hW.vc [] _ _ ?_
 simp[-List.getD_eq_getElem?_getD,zGk,zBJ,zBV,zY,zC6,zJ,PR.rv,zCZ]
 obtain⟨P,hP⟩:∃P:PR,P=⟨st,ag,pr,tx,ut⟩:=⟨_,rfl⟩
 rw[←hP]
 have hu:yL [PV.int .u8 (IntKind.u8.wrap b)]=[u8 b]:=rfl
 have hz:zDY [u8 b]=zOL b:=by rw[zDY,u8_n hpre.2]
 rw[hu,hz]
 refine⟨fun h=>?_,fun h=>⟨fun h2=>⟨by omega,?_⟩,fun h2=>⟨fun h3=>⟨by omega,?_⟩,fun h3=>⟨fun h4=>?_,fun h4=>⟨fun h5=>?_,fun h5=>⟨by omega,?_⟩⟩⟩⟩⟩⟩
 ·rw[zBf,if_pos h,hP];simp[rvP,PR.rv]
 ·rw[zBf,if_neg h,if_pos h2,hP];rfl
 ·rw[zBf,if_neg h,if_neg (by simp[h2]),if_pos h3,hP];rfl
 ·rw[zBf,if_neg h,if_neg (by simp[h2]),if_neg (by simp[h3]),if_pos h4,hP];simp[rvP,PR.rv]
 ·rw[zBf,if_neg h,if_neg (by simp[h2]),if_neg (by simp[h3]),if_neg (by omega),if_pos h5,hP];simp[rvP,PR.rv]
 ·rw[zBf,if_neg h,if_neg (by simp[h2]),if_neg (by simp[h3]),if_neg (by omega),if_neg (by omega),hP];rfl
def zCF:zP:=⟨[(.bx,.box [.int .i64,.list (.int .i64),.bool,.str,.str,.list (.agg [.int .i64,.int .i64,.bool,.list (.int .i64),.str])]),(.rd,.int .i64)],[],true,fun ps=>(nth (nth ps 0).A 5).L.length≤900000,fun _=>[],
 fun ps=>[rvP (zBl (zCZ (nth ps 0).A) (nth ps 1).I) (nth (nth ps 0).A 5).L]⟩
theorem zHM:yQ Try.prog 77 zCF:=by
 refine zf [0,1] [] (zA (cs:=[]) zDI (zA (cs:=[]) zDJ (zG (zD [])))) zb Try.func77 rfl (by decide) rfl (by decide) rfl ?_
 intro ps hT hpre W hW
 simp only[zCF,TyA,Ty,Tys] at hT hpre
 obtain⟨_,_,rfl,⟨_,rfl,_,_,rfl,⟨st,rfl,hst⟩,_,_,rfl,⟨ag,rfl,hag,tag⟩,_,_,rfl,⟨pr,rfl⟩,_,_,rfl,⟨tx,rfl,htx⟩,_,_,rfl,⟨ut,rfl,hut⟩,_,_,rfl,⟨out,rfl,hout,tout⟩,rfl⟩,_,_,rfl,⟨b,rfl,hb⟩,rfl⟩:=hT
 simp only[zF,zK,zBp,zCk,zAS] at hpre
 refine hW.vc [] _ _ ?_
 simp[-List.getD_eq_getElem?_getD,zCF,zBW,zBV,PR.rv,zCZ]
 obtain⟨P,hP⟩:∃P:PR,P=⟨st,ag,pr,tx,ut⟩:=⟨_,rfl⟩
 rw[←hP]
 have hE:zS2 b=true↔((((b=55∨b=56)∨b=68)∨b=69)∨b=77)∨b=99:=by simp[zS2]
 refine⟨fun h=>?_,fun h=>⟨fun h2=>?_,fun h2=>⟨fun h3=>?_,fun h3=>⟨fun h4=>⟨by omega,?_⟩,fun q1 q2 q3 q4 q5 q6=>?_⟩⟩⟩⟩
 ·rw[zBl,if_pos h,hP];simp[rvP,PR.rv]
 ·rw[zBl,if_neg h,if_pos h2,hP];simp[rvP,PR.rv]
 ·rw[zBl,if_neg h,if_neg h2,if_pos h3,hP];simp[rvP,PR.rv]
 ·rw[zBl,if_neg h,if_neg h2,if_neg h3,if_pos (hE.2 h4)];rfl
 ·rw[zBl,if_neg h,if_neg h2,if_neg h3,if_neg (fun q=>by have:=hE.1 q;omega)];simp[rvP,PR.rv]
def zH1:zP:=⟨[(.bx,.box [.int .i64,.list (.int .i64),.bool,.str,.str,.list (.agg [.int .i64,.int .i64,.bool,.list (.int .i64),.str])]),(.rd,.int .i64)],[],true,fun ps=>(nth (nth ps 0).A 5).L.length≤900000∧zD4 (zCZ (nth ps 0).A)∧(nth (nth ps 0).A 0).I=2∧0≤(nth ps 1).I∧(nth ps 1).I≤255,fun _=>[],
 fun ps=>[rvP (zJz (zCZ (nth ps 0).A) (nth ps 1).I) (nth (nth ps 0).A 5).L]⟩
theorem zQO:yQ Try.prog 78 zH1:=by
 refine zf [0,1,4,5,6] [] (zA (cs:=[]) zAJ (zA (cs:=[]) zFD (zA (cs:=[]) zDI (zA (cs:=[]) zDJ (zG (zD [])))))) zb Try.func78 rfl (by decide) rfl (by decide) rfl ?_
 intro ps hT hpre W hW
 simp only[zH1,TyA,Ty,Tys] at hT hpre
 obtain⟨_,_,rfl,⟨_,rfl,_,_,rfl,⟨st,rfl,hst⟩,_,_,rfl,⟨ag,rfl,hag,tag⟩,_,_,rfl,⟨pr,rfl⟩,_,_,rfl,⟨tx,rfl,htx⟩,_,_,rfl,⟨ut,rfl,hut⟩,_,_,rfl,⟨out,rfl,hout,tout⟩,rfl⟩,_,_,rfl,⟨b,rfl,hb⟩,rfl⟩:=hT
 simp only[zF,zK,zBp,zCk,zAS] at hpre
 refine hW.vc [(17,[12,15],tkN [0,1,2,3,4,7,8,9,10,11] (tkM [5] (.alt 6 (.alt 12 (tkN [13] (alN [14,15] .done)) (alN [14,12] (tkN [13] (alS 15 .done)))) (alN [14,6,12] (tkN [13] (alS 15 .done))))))] _ _ ?_
 simp[-List.getD_eq_getElem?_getD,zH1,zBW,zBV,zBJ,zY,zJ,PR.rv,zCZ]
 obtain⟨P,hP⟩:∃P:PR,P=⟨st,ag,pr,tx,ut⟩:=⟨_,rfl⟩
 rw[zCZ] at hpre
 simp only[zF,zK,zAS,zCk,zNj,zCt] at hpre
 obtain⟨o1,hO,s2,b0,b1⟩:=hpre
 have a8:ag.length≤8:=hO.l
 have a0:0 < ag.length:=List.length_pos_iff.2 (hO.s s2)
 rw[←hP]
 have w1:IntKind.i64.wrap ((ag.length:Int) - 1)=ag.length - 1:=zC (by omega)
 have w2:IntKind.i64.wrap ((ag.length:Int) - 1+1)=ag.length:=by rw[zC (by omega)];omega
 have eN:((ag.length:Int) - 1).toNat=ag.length - 1:=by omega
 rw[w1,w2,eN]
 obtain⟨C,hC⟩:∃C,C=nth ag (ag.length - 1):=⟨_,rfl⟩
 have hc:-1≤C.I∧C.I≤9999:=by
  obtain⟨c,hc,c1,c2⟩:=hO.a _ (yJ (show ag.length - 1 < ag.length by omega))
  rw[hC,hc];exact⟨c1,c2⟩
 rw[←hC]
 obtain⟨m,hm⟩:∃m:Int,m=if 0 < C.I then C.I else 0:=⟨_,rfl⟩
 have hm2:0≤m∧m≤9999:=by rw[hm];split<;>omega
 rw[←hm,zC (n:=m*10) (by omega),zC (n:=m*10+b) (by omega),zC (n:=m*10+b - 48) (by omega)]
 have hD:zR8 C.I b=if m*10+b - 48 < 9999 then m*10+b - 48 else 9999:=by rw[zR8,←hm]
 have hE:∀x,zJz P b=x→zJz ⟨st,ag,pr,tx,ut⟩ b=x:=fun x q=>by rw[←hP];exact q
 have k1:b=27→zJz P b=({ PR.g with st:=1 },[]):=fun h=>by rw[zJz,if_pos h]
 intro _
 refine⟨fun h=>?_,fun h=>⟨fun h2=>⟨by omega,?_⟩,fun h2=>⟨fun h3=>⟨by omega,by omega,by omega,fun _=>⟨by omega,by omega,?_⟩⟩,fun h3=>⟨fun h4 h5=>⟨by omega,by omega,fun _=>?_⟩,fun h4=>⟨fun h5 h6=>⟨⟨h5,h6⟩,a0⟩,fun h5=>⟨fun h6 h7 h8 h9=>?_,fun h6=>⟨fun h7=>⟨by decide +kernel,by omega,by omega,?_⟩,fun h7=>?_⟩⟩⟩⟩⟩⟩⟩
 ·rw[zJz,if_pos h];simp[rvP,PR.rv]
 ·rw[zJz,if_neg h,if_pos h2,hP];rfl
 ·rw[zJz,if_neg h,if_neg (show ¬zJy b=true by simp[h2]),if_pos h3,hP];simp only[rvP,PR.rv];rw[←hC,hD];simp
 ·rw[zJz,if_neg h,if_neg (by simp[h2]),if_neg (by simp[h3]),if_pos ⟨h4,by rw[hP];show ag.length < 8;omega⟩,hP];simp[rvP,PR.rv]
 ·have q:ag.length=1:=by omega
  rw[zJz,if_neg h,if_neg (by simp[h2]),if_neg (by simp[h3]),if_neg (by omega),if_pos ⟨h6,by rw[hP];exact q,by rw[hP];exact h8,by rw[hP];exact h9⟩,hP];simp[rvP,PR.rv]
 ·have q:¬(b=59∧P.args.length < 8):=fun z=>by have:=h4 z.1;have z2:=z.2;rw[hP] at z2;simp only at z2;omega
  have q2:¬(b=63∧P.args.length=1∧(nth P.args 0).I < 0∧P.priv=false):=fun z=>by
   rw[hP] at z
   obtain⟨z1,z2,z3,z4⟩:=z
   simp only at z2 z3 z4
   have:=h6 z1 (by omega) z3
   rw[z4] at this;cases this
  rw[zJz,if_neg h,if_neg (by simp[h2]),if_neg (by simp[h3]),if_neg q,if_neg q2,if_pos h7,hP];rfl
 ·have q:¬(b=59∧P.args.length < 8):=fun z=>by have:=h4 z.1;have z2:=z.2;rw[hP] at z2;simp only at z2;omega
  have q2:¬(b=63∧P.args.length=1∧(nth P.args 0).I < 0∧P.priv=false):=fun z=>by
   rw[hP] at z
   obtain⟨z1,z2,z3,z4⟩:=z
   simp only at z2 z3 z4
   have:=h6 z1 (by omega) z3
   rw[z4] at this;cases this
  rw[zJz,if_neg h,if_neg (by simp[h2]),if_neg (by simp[h3]),if_neg q,if_neg q2,if_neg (by simp[h7])];simp[rvP,PR.rv]
def zK1:zP:=⟨[(.bx,.box [.int .i64,.list (.int .i64),.bool,.str,.str,.list (.agg [.int .i64,.int .i64,.bool,.list (.int .i64),.str])]),(.rd,.int .i64)],[],true,fun ps=>(nth (nth ps 0).A 5).L.length≤900000,fun _=>[],
 fun ps=>[rvP (zPr (zCZ (nth ps 0).A) (nth ps 1).I) (nth (nth ps 0).A 5).L]⟩
theorem zSv:yQ Try.prog 79 zK1:=by
 refine zf [0,1] [] (zA (cs:=[]) zAJ (zA (cs:=[]) zDJ (zG (zD [])))) zb Try.func79 rfl (by decide) rfl (by decide) rfl ?_
 intro ps hT hpre W hW
 simp only[zK1,TyA,Ty,Tys] at hT hpre
 obtain⟨_,_,rfl,⟨_,rfl,_,_,rfl,⟨st,rfl,hst⟩,_,_,rfl,⟨ag,rfl,hag,tag⟩,_,_,rfl,⟨pr,rfl⟩,_,_,rfl,⟨tx,rfl,htx⟩,_,_,rfl,⟨ut,rfl,hut⟩,_,_,rfl,⟨out,rfl,hout,tout⟩,rfl⟩,_,_,rfl,⟨b,rfl,hb⟩,rfl⟩:=hT
 simp only[zF,zK,zBp,zCk,zAS] at hpre
 refine hW.vc [] _ _ ?_
 simp[-List.getD_eq_getElem?_getD,zK1,zBW,zY,zJ,PR.rv,zCZ]
 obtain⟨P,hP⟩:∃P:PR,P=⟨st,ag,pr,tx,ut⟩:=⟨_,rfl⟩
 rw[←hP]
 refine⟨fun h=>?_,fun h=>⟨fun h2=>?_,fun h2=>?_⟩⟩
 ·rw[zPr,if_pos h,hP];simp[rvP,PR.rv]
 ·rw[zPr,if_neg h,if_pos h2];simp[rvP,PR.rv]
 ·rw[zPr,if_neg h,if_neg (by simp[h2]),hP];simp[rvP,PR.rv]
def zOq:zP:=⟨[(.bx,.box [.int .i64,.list (.int .i64),.bool,.str,.str,.list (.agg [.int .i64,.int .i64,.bool,.list (.int .i64),.str])]),(.rd,.int .i64)],[],true,fun ps=>(nth (nth ps 0).A 5).L.length≤900000∧0≤(nth ps 1).I∧(nth ps 1).I≤255,fun _=>[],
 fun ps=>[rvP (zPV (zCZ (nth ps 0).A) (nth ps 1).I) (nth (nth ps 0).A 5).L]⟩
theorem k_osc:yQ Try.prog 80 zOq:=by
 refine zf [0,1,4] [] (zA (cs:=[]) zAJ (zA (cs:=[]) zDI (zA (cs:=[]) zDJ (zG (zD []))))) zb Try.func80 rfl (by decide) rfl (by decide) rfl ?_
 intro ps hT hpre W hW
 simp only[zOq,TyA,Ty,Tys] at hT hpre
 obtain⟨_,_,rfl,⟨_,rfl,_,_,rfl,⟨st,rfl,hst⟩,_,_,rfl,⟨ag,rfl,hag,tag⟩,_,_,rfl,⟨pr,rfl⟩,_,_,rfl,⟨tx,rfl,htx⟩,_,_,rfl,⟨ut,rfl,hut⟩,_,_,rfl,⟨out,rfl,hout,tout⟩,rfl⟩,_,_,rfl,⟨b,rfl,hb⟩,rfl⟩:=hT
 simp only[zF,zK,zBp,zCk,zAS] at hpre
 refine hW.vc [(7,[13],tkN [0,1,2,3,4,5,6] (alS 7 (tkN [8,9,10,11,12] (alS 13 .done))))] _ _ ?_
 simp[-List.getD_eq_getElem?_getD,zOq,zBW,zBV,zY,zJ,PR.rv,zCZ]
 obtain⟨P,hP⟩:∃P:PR,P=⟨st,ag,pr,tx,ut⟩:=⟨_,rfl⟩
 rw[←hP]
 have hu:yL [PV.int .u8 (IntKind.u8.wrap b)]=[u8 b]:=rfl
 rw[hu]
 refine⟨fun h=>⟨by omega,?_⟩,fun h=>⟨fun h2=>?_,fun h2 h3=>⟨fun h4 h5=>⟨by decide +kernel,by simp only[List.length_singleton];omega,?_⟩,fun h4=>?_⟩⟩⟩
 ·rw[zPV,if_pos h,hP];rfl
 ·rw[zPV,if_neg h,if_pos h2,hP];simp[rvP,PR.rv]
 ·rw[zPV,if_neg h,if_neg h2,if_pos ⟨h4,by rw[hP];show tx.length < 40;omega⟩,hP];simp[rvP,PR.rv]
 ·have q:¬(inB b 32 126=true∧P.txt.length < 40):=fun z=>by have:=h4 z.1;have z2:=z.2;rw[hP] at z2;simp only at z2;omega
  rw[zPV,if_neg h,if_neg h2,if_neg q,hP];simp[rvP,PR.rv]
end
end Go.Proofs.Ytdmbfkooebldcaa
