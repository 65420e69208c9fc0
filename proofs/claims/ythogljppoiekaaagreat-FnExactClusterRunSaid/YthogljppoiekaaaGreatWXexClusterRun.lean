/-
  What FnExactClusterRun alone needs: contracts of functions and plain laws.
  Conditions: none.
-/
import Derived.Test.YthogljppoiekaaaGreatW45
import Derived.Test.YthogljppoiekaaaGreatW46
import Derived.Test.YthogljppoiekaaaGreatW48
set_option linter.unusedVariables false
set_option linter.unusedSimpArgs false
set_option linter.unusedSectionVars false
set_option maxRecDepth 100000
namespace Go.Proofs.YthogljppoiekaaaGreat
section
variable [zS]
theorem zD1{out es:List PV}{i:Nat}{x:PV}(h1:out.take i=es.take i)(h2:out.length=es.length)(h3:i < es.length)(h4:x=nth es i):(out.set i x).take (i+1)=es.take (i+1):=by
 rw[zd h3,←h1,zd (by simp;omega),List.take_set_of_le (Nat.le_refl _),zHX (by simp;omega),List.getElem_set_self,h4]
theorem zIM:zh Tryz.prog 55 zM:=by
 refine zP [0,1,4,5] [.tmp 4] (zD (zB [])) mixed Tryz.func55 rfl (by decide) rfl (by decide) rfl ?_
 intro ps hT hpre W hW
 simp only[zM,TyA,Ty,Tys] at hT hpre
 obtain⟨_,_,rfl,⟨es,rfl,he,hes⟩,_,_,rfl,⟨es2,rfl,he2,hes2⟩,rfl⟩:=hT
 refine hW.vc [(6,[],tkN [0,1,2,3,4,5,6,7,8] .done)] _ _ ?_
 simp[-List.getD_eq_getElem?_getD,zM]
 refine fun h1 h2=>⟨fun h3=>zAX (by omega),fun h3=>?_⟩
 refine hW.loopS _ _ _ [.sl 5 .dp (.int .i64)] (fun ys=>∃i:Nat,ys=[.int .i64 i]∧i≤es.length∧eqL (fun x y=>x.S == y.S) es es2=eqL (fun x y=>x.S == y.S) (es.drop i) (es2.drop i)) (fun ys=>es.length - (nth ys 0).I.toNat) ?_ ?_
 ·simp[-List.getD_eq_getElem?_getD,zM]
  exact⟨0,rfl,by simp,by simp⟩
 ·rintro ys ⟨i,rfl,h4,h5⟩
  refine hW.vc [(6,[],tkN [0,1,2,3,4,5,6,7,8] .done)] _ _ ?_
  simp[-List.getD_eq_getElem?_getD,zM]
  refine fun _=>⟨fun h6=>⟨by decide +kernel,h6,fun _=>⟨by omega,fun _=>?_⟩⟩,fun h6=>?_⟩
  ·rw[zG h6,zG (by omega:i < es2.length),eqL] at h5
   rw[zC (by omega)]
   refine⟨fun h7=>by rw[h5];simp[h7],fun h7=>⟨⟨i+1,by omega,by omega,by rw[h5];simp[h7]⟩,by omega⟩⟩
  ·rw[h5,List.drop_eq_nil_of_le h6,List.drop_eq_nil_of_le (by omega)];rfl
end
section
variable [zS]
def zRi(n:Nat):List UInt8:=if h:n=0 then [] else zRi (n / 10)++[UInt8.ofNat (48+n % 10)]
termination_by n
decreasing_by omega
def zES(k:Int):List UInt8:=if k≤0 then [109,48] else 109 :: zRi k.toNat
def zZ:zJ:=⟨[(.rd,.int .i64)],[.str],true,fun ps=>(nth ps 0).I≤1073741824,fun ps=>[.str (zES (nth ps 0).I)],fun _=>[]⟩
theorem zA4:zh Tryz.prog 57 zZ:=by
 refine zP [0,2,3] [.tmp 2] (zD (zB [])) mixed Tryz.func57 rfl (by decide) rfl (by decide) rfl ?_
 intro ps hT hpre W hW
 simp only[zZ,TyA,Ty,Tys] at hT hpre
 obtain⟨_,_,rfl,⟨k,rfl,hk⟩,rfl⟩:=hT
 simp only[zE,yp] at hpre
 rw[zHR] at hk
 refine hW.vc [] _ _ ?_
 simp[-List.getD_eq_getElem?_getD,zZ]
 refine⟨fun h=>by rw[zES,if_pos h],fun h=>hW.loopS _ _ _ [.sl 3 .dp .str,.sl 0 .dp (.int .i64)] (fun ys=>∃(out:List UInt8) (x:Int),ys=[.str out,.int .i64 x]∧0≤x∧x≤k∧out.length+x≤k∧zRi k.toNat=zRi x.toNat++out) (fun ys=>(nth ys 1).I.toNat) ?_ ?_⟩
 ·simp[-List.getD_eq_getElem?_getD,zZ]
  exact⟨_,_,⟨rfl,rfl⟩,by omega,by omega,by simp,by simp⟩
 ·rintro ys ⟨out,x,rfl,h2,h3,h4,h5⟩
  refine hW.vc [] _ _ ?_
  simp[-List.getD_eq_getElem?_getD,zZ,zFD]
  obtain⟨m,rfl⟩:=Int.eq_ofNat_of_zero_le h2
  have e1:((m:Int)).tmod 10=((m % 10:Nat):Int):=rfl
  have e2:((m:Int)).tdiv 10=((m / 10:Nat):Int):=rfl
  rw[e1,e2,zC (n:=48+((m % 10:Nat):Int)) (by omega),zC (n:=((m / 10:Nat):Int)) (by omega),zVM (by omega)]
  refine⟨fun h6=>⟨by omega,⟨_,_,⟨rfl,rfl⟩,by omega,by omega,by simp only[List.length_cons];omega,?_⟩,by omega⟩,fun h6=>⟨by omega,?_⟩⟩
  ·have h7:m≠0:=by omega
   have e3:(48+((m % 10:Nat):Int)).toNat=48+m % 10:=by omega
   rw[h5,e3,Int.toNat_natCast,Int.toNat_natCast,zRi,dif_neg h7,List.append_assoc];rfl
  ·have h7:m=0:=by omega
   subst h7
   rw[zES,if_neg (by omega),h5]
   simp[zRi]
def zCa(k:Int):Nat→List PV
 | 0=>[]
 | n+1=>.str (zES k) :: zCa (k+1) n
theorem zDQ:∀(n:Nat) (k:Int),(zCa k n).length=n
 | 0,_=>rfl
 | n+1,k=>by simp[zCa,zDQ n]
theorem zFm:∀(n:Nat) (k:Int),zCa k (n+1)=zCa k n++[.str (zES (k+n))]
 | 0,k=>by simp[zCa]
 | n+1,k=>by
  rw[zCa,zFm n (k+1),zCa,List.cons_append]
  simp only[List.cons.injEq,true_and,List.append_cancel_left_eq,and_true,PV.str.injEq]
  congr 1;omega
theorem zBY{m es:List PV}{i:Nat}{x:PV}{m':List PV}(h1:m.length=i)(h2:i < es.length)(h3:m'=m++[x]):(m++es.drop i).set i x=m'++es.drop (i+1):=by
 subst h3
 rw[List.set_append_right _ _ (by omega),h1,Nat.sub_self,zG h2,List.set_cons_zero,List.append_assoc,List.singleton_append]
def zAK:zJ:=⟨[(.mt,.list .str),(.rd,.int .i64)],[.int .i64],true,fun ps=>0≤(nth ps 1).I∧(nth ps 1).I+(nth ps 0).L.length≤1073741824,fun ps=>[.int .i64 ((nth ps 1).I+(nth ps 0).L.length)],fun ps=>[.list (zCa (nth ps 1).I (nth ps 0).L.length)]⟩
theorem zF6:zh Tryz.prog 61 zAK:=by
 refine zP [0,1,4,5] [.tmp 4] (zA (cs:=[]) zA4 (zD (zB []))) mixed Tryz.func61 rfl (by decide) rfl (by decide) rfl ?_
 intro ps hT hpre W hW
 simp only[zAK,TyA,Ty,Tys] at hT hpre
 obtain⟨_,_,rfl,⟨es,rfl,hes,tes⟩,_,_,rfl,⟨k,rfl,hk⟩,rfl⟩:=hT
 simp only[zE,zF,yp,zAA] at hpre
 refine hW.vc [] _ _ ?_
 simp[-List.getD_eq_getElem?_getD,zAK,zZ]
 refine hW.loopS _ _ _ [.ar 0 .str,.sl 1 .dp (.int .i64),.sl 5 .dp (.int .i64)] (fun ys=>∃i:Nat,ys=[.list (zCa k i++es.drop i),.int .i64 (k+i),.int .i64 i]∧i≤es.length) (fun ys=>es.length - (nth ys 2).I.toNat) ?_ ?_
 ·simp[-List.getD_eq_getElem?_getD,zAK,zZ]
  exact⟨0,⟨by simp[zCa],by omega,rfl⟩,by omega⟩
 ·rintro ys ⟨i,rfl,h2⟩
  refine hW.vc [] _ _ ?_
  simp[-List.getD_eq_getElem?_getD,zAK,zZ]
  rw[zDQ]
  refine fun _=>⟨fun h3=>⟨by omega,by omega,by omega,⟨i+1,⟨?_,by rw[zC (by omega)];omega,by rw[zC (by omega)];omega⟩,by omega⟩,by rw[zC (by omega)];omega⟩,fun h3=>?_⟩
  ·exact zBY (zDQ i k) (by omega) (zFm i k)
  ·have:i=es.length:=by omega
   subst this
   simp
def zn(f:Int→PV→Bool)(d:Int)(k:Int):List PV→Int
 | []=>k
 | e :: es=>if f k e then zn f d (k+d) es else -1
theorem zI4{f:Int→PV→Bool}{d:Int}(hd:0≤d):∀{es:List PV} {k:Int},0≤k→zn f d k es < 0→zn f d k es=-1
 | [],k,hk,h=>by simp only[zn] at h;omega
 | e :: es,k,hk,h=>by
  simp only[zn] at h ⊢
  split
  ·rename_i h1
   rw[if_pos h1] at h
   exact zI4 hd (by omega) h
  ·rfl
def zDS(k:Int)(e:PV):Bool:=e.S == zES k
theorem zBy{f:Int→PV→Bool}{d:Int}{m:Int→Nat→List PV}(h0:∀k,m k 0=[])(h1:∀k n,∃x,m k (n+1)=x :: m (k+d) n∧f k x=true):∀(n:Nat) (k:Int),zn f d k (m k n)=k+d*n
 | 0,k=>by simp[h0,zn]
 | n+1,k=>by
  obtain⟨x,h2,h3⟩:=h1 k n
  rw[h2,zn,if_pos h3,zBy h0 h1 n,Int.natCast_add,Int.mul_add];omega
theorem zJu(n:Nat)(k:Int):zn zDS 1 k (zCa k n)=k+n:=by
 rw[zBy (m:=zCa) (fun _=>rfl) (fun k n=>⟨_,rfl,by simp[zDS,zEW]⟩),Int.one_mul]
def zAL:zJ:=⟨[(.rd,.list .str),(.rd,.int .i64)],[.int .i64],true,fun ps=>0≤(nth ps 1).I∧(nth ps 1).I+(nth ps 0).L.length≤1073741824,fun ps=>[.int .i64 (zn zDS 1 (nth ps 1).I (nth ps 0).L)],fun _=>[]⟩
theorem zF9:zh Tryz.prog 65 zAL:=by
 refine zP [0,1,4,5] [.tmp 4] (zA (cs:=[]) zA4 (zD (zB []))) mixed Tryz.func65 rfl (by decide) rfl (by decide) rfl ?_
 intro ps hT hpre W hW
 simp only[zAL,TyA,Ty,Tys] at hT hpre
 obtain⟨_,_,rfl,⟨es,rfl,hes,tes⟩,_,_,rfl,⟨k,rfl,hk⟩,rfl⟩:=hT
 simp only[zE,zF,yp,zAA] at hpre
 refine hW.vc [(4,[],tkN [0,1,2,3,4] (alS 5 (tkN [6] .done)))] _ _ ?_
 simp[-List.getD_eq_getElem?_getD,zAL,zZ]
 refine hW.loopS _ _ _ [.sl 1 .dp (.int .i64),.sl 5 .dp (.int .i64)] (fun ys=>∃i:Nat,ys=[.int .i64 (k+i),.int .i64 i]∧i≤es.length∧zn zDS 1 k es=zn zDS 1 (k+i) (es.drop i)) (fun ys=>es.length - (nth ys 1).I.toNat) ?_ ?_
 ·simp[-List.getD_eq_getElem?_getD,zAL,zZ]
  exact⟨0,⟨by omega,rfl⟩,by omega,by simp⟩
 ·rintro ys ⟨i,rfl,h2,h3⟩
  refine hW.vc [(4,[],tkN [0,1,2,3,4] (alS 5 (tkN [6] .done)))] _ _ ?_
  simp[-List.getD_eq_getElem?_getD,zAL,zZ]
  refine fun _=>⟨fun h4=>⟨by decide +kernel,h4,fun _=>⟨by omega,fun h5=>?_,fun h5=>?_⟩⟩,fun h4=>?_⟩
  ·rw[h3,zG h4,zn,if_neg (by simpa[zDS] using h5)]
  ·rw[zC (by omega),zC (by omega)]
   refine⟨⟨i+1,⟨by omega,by omega⟩,by omega,?_⟩,by omega⟩
   rw[h3,zG h4,zn,if_pos (by simpa[zDS] using h5),Int.natCast_add,←Int.add_assoc];rfl
  ·rw[h3,List.drop_eq_nil_of_le h4];rfl
def zC8(k:Int):Nat→List PV
 | 0=>[]
 | n+1=>.agg [.int .i64 k,.str (zES (k+1))] :: zC8 (k+2) n
theorem zBM:∀(n:Nat) (k:Int),(zC8 k n).length=n
 | 0,_=>rfl
 | n+1,k=>by simp[zC8,zBM n]
theorem zFn:∀(n:Nat) (k:Int),zC8 k (n+1)=zC8 k n++[.agg [.int .i64 (k+2*n),.str (zES (k+2*n+1))]]
 | 0,k=>by simp[zC8]
 | n+1,k=>by
  rw[zC8,zFn n (k+2),zC8,List.cons_append]
  have e:k+2+2*(n:Int)=k+2*((n+1:Nat):Int):=by omega
  rw[e]
def zBN(k:Int)(e:PV):Bool:=(nth e.A 0).I == k&&(nth e.A 1).S == zES (k+1)
theorem zFr(n:Nat)(k:Int):zn zBN 2 k (zC8 k n)=k+2*n:=by
 rw[zBy (m:=zC8) (fun _=>rfl) (fun k n=>⟨_,rfl,by simp[zBN,zEW,yp,zBE,zE,zF]⟩)]
end
section
variable [zS]
def zFH(l n:Int):Int:=if l - n < 0 then -1 else l - n
end
section
variable [zS]
def eqB(x y:PV):Bool:=x.I == y.I
theorem zGQ(es:List PV):eqL eqB es es=true:=y9 fun _=>by simp[eqB]
end
section
variable [zS]
def zBt:zJ:=⟨[(.rd,.agg [.int .i64,.str]),(.rd,.agg [.int .i64,.str])],[.bool],true,fun _=>True,fun ps=>[.bool (zEP (nth ps 0).A (nth ps 1).A)],fun _=>[]⟩
theorem zLG:zh Tryz.prog 196 zBt:=by
 refine zP [0,1,2,3,4] [.tmp 4] (zD (zB [])) mixed Tryz.func196 rfl (by decide) rfl (by decide) rfl ?_
 intro ps hT hpre W hW
 simp only[zBt,TyA,Ty,Tys] at hT hpre
 obtain⟨_,_,rfl,⟨_,rfl,_,_,rfl,⟨y,rfl,hy⟩,_,_,rfl,⟨c,rfl,hc⟩,rfl⟩,_,_,rfl,⟨_,rfl,_,_,rfl,⟨y',rfl,hy'⟩,_,_,rfl,⟨c',rfl,hc'⟩,rfl⟩,rfl⟩:=hT
 refine hW.vc [] _ _ ?_
 simp[-List.getD_eq_getElem?_getD,zBt]
 simp only[zEP,zE,zF,yp,zEW]
 refine⟨fun h1=>by simp[h1],fun h1=>⟨fun h2=>by simp[h2],fun h2=>by simp[h1,h2]⟩⟩
def zm:zJ:=⟨[(.rd,.list (.agg [.int .i64,.str])),(.rd,.list (.agg [.int .i64,.str]))],[.bool],true,fun _=>True,fun ps=>[.bool (eqL ze (nth ps 0).L (nth ps 1).L)],fun _=>[]⟩
theorem zFq:zh Tryz.prog 155 zm:=by
 refine zP [0,1,4,5] [.tmp 4] (zA (cs:=[]) zLG (zD (zB []))) mixed Tryz.func155 rfl (by decide) rfl (by decide) rfl ?_
 intro ps hT hpre W hW
 simp only[zm,TyA,Ty,Tys] at hT hpre
 obtain⟨_,_,rfl,⟨es,rfl,hes,tes⟩,_,_,rfl,⟨es2,rfl,hes2,tes2⟩,rfl⟩:=hT
 refine hW.vc [(6,[],tkN [0,1,2,3,4,5,6,7] (alS 8 (tkN [9] .done)))] _ _ ?_
 simp[-List.getD_eq_getElem?_getD,zm,zBt]
 refine fun h1 h2=>⟨fun h3=>zAX (by omega),fun h3=>?_⟩
 refine hW.loopS _ _ _ [.sl 5 .dp (.int .i64)] (fun ys=>∃i:Nat,ys=[.int .i64 i]∧i≤es.length∧eqL ze es es2=eqL ze (es.drop i) (es2.drop i)) (fun ys=>es.length - (nth ys 0).I.toNat) ?_ ?_
 ·simp[-List.getD_eq_getElem?_getD,zm,zBt]
  exact⟨0,rfl,by simp,by simp⟩
 ·rintro ys ⟨i,rfl,h4,h5⟩
  refine hW.vc [(6,[],tkN [0,1,2,3,4,5,6,7] (alS 8 (tkN [9] .done)))] _ _ ?_
  simp[-List.getD_eq_getElem?_getD,zm,zBt]
  refine fun _=>⟨fun h6=>⟨by decide +kernel,h6,fun _ _ _=>⟨by omega,fun _ _ _=>?_⟩⟩,fun h6=>?_⟩
  ·rw[zG h6,zG (by omega:i < es2.length),eqL] at h5
   have h8:zEP [PV.int IntKind.i64 (nth (nth es i).A 0).I,PV.str (nth (nth es i).A 1).S] [PV.int IntKind.i64 (nth (nth es2 i).A 0).I,PV.str (nth (nth es2 i).A 1).S]=ze (nth es i) (nth es2 i):=rfl
   rw[zC (by omega),h8]
   refine⟨fun h7=>by rw[h5];simp[h7],fun h7=>⟨⟨i+1,by omega,by omega,by rw[h5];simp[h7]⟩,by omega⟩⟩
  ·rw[h5,List.drop_eq_nil_of_le h6,List.drop_eq_nil_of_le (by omega)];rfl
def zs:zJ:=⟨[(.mt,.list (.agg [.int .i64,.str])),(.rd,.int .i64)],[.int .i64],true,fun ps=>0≤(nth ps 1).I∧(nth ps 1).I+2*(nth ps 0).L.length≤1073741823,fun ps=>[.int .i64 ((nth ps 1).I+2*(nth ps 0).L.length)],fun ps=>[.list (zC8 (nth ps 1).I (nth ps 0).L.length)]⟩
theorem zDu:zh Tryz.prog 103 zs:=by
 refine zP [0,1,4,5] [.tmp 4] (zA (cs:=[]) zA4 (zD (zB []))) mixed Tryz.func103 rfl (by decide) rfl (by decide) rfl ?_
 intro ps hT hpre W hW
 simp only[zs,TyA,Ty,Tys] at hT hpre
 obtain⟨_,_,rfl,⟨es,rfl,hes,tes⟩,_,_,rfl,⟨k,rfl,hk⟩,rfl⟩:=hT
 simp only[zE,zF,yp,zAA] at hpre
 refine hW.vc [] _ _ ?_
 simp[-List.getD_eq_getElem?_getD,zs,zZ]
 refine hW.loopS _ _ _ [.ar 0 (.agg [.int .i64,.str]),.sl 1 .dp (.int .i64),.sl 5 .dp (.int .i64)] (fun ys=>∃i:Nat,ys=[.list (zC8 k i++es.drop i),.int .i64 (k+2*i),.int .i64 i]∧i≤es.length) (fun ys=>es.length - (nth ys 2).I.toNat) ?_ ?_
 ·simp[-List.getD_eq_getElem?_getD,zs,zZ]
  exact⟨0,⟨by simp[zC8],by omega,rfl⟩,by omega⟩
 ·rintro ys ⟨i,rfl,h2⟩
  refine hW.vc [] _ _ ?_
  simp[-List.getD_eq_getElem?_getD,zs,zZ]
  rw[zBM]
  have e1:IntKind.i64.wrap (k+2*(i:Int)+1)=k+2*i+1:=zC (by omega)
  rw[e1,zC (n:=k+2*(i:Int)+1+1) (by omega),zC (n:=(i:Int)+1) (by omega)]
  refine fun _=>⟨fun h3=>⟨by omega,by omega,by omega,by omega,by omega,⟨i+1,⟨?_,by omega,by omega⟩,by omega⟩,by omega⟩,fun h3=>?_⟩
  ·rw[zEc (by rw[List.length_append,zBM,List.length_drop];omega),zBE,zE]
   exact zBY (zBM i k) (by omega) (zFn i k)
  ·have:i=es.length:=by omega
   subst this
   simp
def yB:zJ:=⟨[(.rd,.list (.agg [.int .i64,.str])),(.rd,.int .i64)],[.int .i64],true,fun ps=>0≤(nth ps 1).I∧(nth ps 1).I+2*(nth ps 0).L.length≤1073741823,fun ps=>[.int .i64 (zn zBN 2 (nth ps 1).I (nth ps 0).L)],fun _=>[]⟩
theorem zDv:zh Tryz.prog 104 yB:=by
 refine zP [0,1,4,5] [.tmp 4] (zA (cs:=[]) zA4 (zD (zB []))) mixed Tryz.func104 rfl (by decide) rfl (by decide) rfl ?_
 intro ps hT hpre W hW
 simp only[yB,TyA,Ty,Tys] at hT hpre
 obtain⟨_,_,rfl,⟨es,rfl,hes,tes⟩,_,_,rfl,⟨k,rfl,hk⟩,rfl⟩:=hT
 simp only[zE,zF,yp,zAA] at hpre
 refine hW.vc [(7,[],tkN [0,1,2,3,4,5] (alS 6 (tkN [7] .done)))] _ _ ?_
 simp[-List.getD_eq_getElem?_getD,yB,zZ]
 refine hW.loopS _ _ _ [.sl 1 .dp (.int .i64),.sl 5 .dp (.int .i64)] (fun ys=>∃i:Nat,ys=[.int .i64 (k+2*i),.int .i64 i]∧i≤es.length∧zn zBN 2 k es=zn zBN 2 (k+2*i) (es.drop i)) (fun ys=>es.length - (nth ys 1).I.toNat) ?_ ?_
 ·simp[-List.getD_eq_getElem?_getD,yB,zZ]
  exact⟨0,⟨by omega,rfl⟩,by omega,by simp⟩
 ·rintro ys ⟨i,rfl,h2,h3⟩
  refine hW.vc [(7,[],tkN [0,1,2,3,4,5] (alS 6 (tkN [7] .done)))] _ _ ?_
  simp[-List.getD_eq_getElem?_getD,yB,zZ]
  have e1:IntKind.i64.wrap (k+2*(i:Int)+1)=k+2*i+1:=zC (by omega)
  rw[e1,zC (n:=k+2*(i:Int)+1+1) (by omega),zC (n:=(i:Int)+1) (by omega)]
  refine fun _=>⟨fun h4=>⟨h4,fun _=>⟨fun h5=>?_,fun h5=>⟨by decide +kernel,h4,fun _=>⟨by omega,fun h6=>?_,fun h6=>⟨⟨i+1,⟨by omega,by omega⟩,by omega,?_⟩,by omega⟩⟩⟩⟩⟩,fun h4=>?_⟩
  ·rw[h3,zG h4,zn,if_neg (by simp[zBN,h5])]
  ·rw[h3,zG h4,zn,if_neg (by simp[zBN,h6])]
  ·have e2:k+2*((i+1:Nat):Int)=k+2*i+2:=by omega
   rw[h3,zG h4,zn,if_pos (by simp[zBN,h5,h6]),e2]
  ·rw[h3,List.drop_eq_nil_of_le h4];rfl
def zAR:zJ:=⟨[(.rd,.list (.int .i64)),(.rd,.list (.int .i64))],[.bool],true,fun _=>True,fun ps=>[.bool (eqL eqB (nth ps 0).L (nth ps 1).L)],fun _=>[]⟩
theorem zLg:zh Tryz.prog 16 zAR:=by
 refine zP [0,1,4,5] [.tmp 4] (zD (zB [])) mixed Tryz.func16 rfl (by decide) rfl (by decide) rfl ?_
 intro ps hT hpre W hW
 simp only[zAR,TyA,Ty,Tys] at hT hpre
 obtain⟨_,_,rfl,⟨es,rfl,hes,tes⟩,_,_,rfl,⟨es2,rfl,hes2,tes2⟩,rfl⟩:=hT
 refine hW.vc [(6,[],tkN [0,1,2,3,4,5,6,7,8] .done)] _ _ ?_
 simp[-List.getD_eq_getElem?_getD,zAR]
 refine fun h1 h2=>⟨fun h3=>zAX (by omega),fun h3=>?_⟩
 refine hW.loopS _ _ _ [.sl 5 .dp (.int .i64)] (fun ys=>∃i:Nat,ys=[.int .i64 i]∧i≤es.length∧eqL eqB es es2=eqL eqB (es.drop i) (es2.drop i)) (fun ys=>es.length - (nth ys 0).I.toNat) ?_ ?_
 ·simp[-List.getD_eq_getElem?_getD,zAR]
  exact⟨0,rfl,by simp,by simp⟩
 ·rintro ys ⟨i,rfl,h4,h5⟩
  refine hW.vc [(6,[],tkN [0,1,2,3,4,5,6,7,8] .done)] _ _ ?_
  simp[-List.getD_eq_getElem?_getD,zAR]
  refine fun _=>⟨fun h6=>⟨by decide +kernel,h6,fun _=>⟨by omega,fun _=>?_⟩⟩,fun h6=>?_⟩
  ·rw[zG h6,zG (by omega:i < es2.length),eqL] at h5
   rw[zC (by omega)]
   refine⟨fun h7=>by rw[h5];simp[eqB,h7],fun h7=>⟨⟨i+1,by omega,by omega,by rw[h5];simp[eqB,h7]⟩,by omega⟩⟩
  ·rw[h5,List.drop_eq_nil_of_le h6,List.drop_eq_nil_of_le (by omega)];rfl
def zCs(k:Int):Nat→List PV
 | 0=>[]
 | n+1=>.int .i64 k :: zCs (k+1) n
theorem zCG:∀(n:Nat) (k:Int),(zCs k n).length=n
 | 0,_=>rfl
 | n+1,k=>by simp[zCs,zCG n]
theorem zFo:∀(n:Nat) (k:Int),zCs k (n+1)=zCs k n++[.int .i64 (k+n)]
 | 0,k=>by simp[zCs]
 | n+1,k=>by
  rw[zCs,zFo n (k+1),zCs,List.cons_append]
  have e:k+1+(n:Int)=k+((n+1:Nat):Int):=by omega
  rw[e]
def zAB:zJ:=⟨[(.mt,.list (.int .i64)),(.rd,.int .i64)],[.int .i64],true,fun ps=>0≤(nth ps 1).I∧(nth ps 1).I+(nth ps 0).L.length≤1073741823,fun ps=>[.int .i64 ((nth ps 1).I+(nth ps 0).L.length)],fun ps=>[.list (zCs (nth ps 1).I (nth ps 0).L.length)]⟩
theorem zHi:zh Tryz.prog 20 zAB:=by
 refine zP [0,1,4,5] [.tmp 4] (zD (zB [])) mixed Tryz.func20 rfl (by decide) rfl (by decide) rfl ?_
 intro ps hT hpre W hW
 simp only[zAB,TyA,Ty,Tys] at hT hpre
 obtain⟨_,_,rfl,⟨es,rfl,hes,tes⟩,_,_,rfl,⟨k,rfl,hk⟩,rfl⟩:=hT
 simp only[zE,zF,yp,zAA] at hpre
 refine hW.vc [] _ _ ?_
 simp[-List.getD_eq_getElem?_getD,zAB]
 refine hW.loopS _ _ _ [.ar 0 (.int .i64),.sl 1 .dp (.int .i64),.sl 5 .dp (.int .i64)] (fun ys=>∃i:Nat,ys=[.list (zCs k i++es.drop i),.int .i64 (k+i),.int .i64 i]∧i≤es.length) (fun ys=>es.length - (nth ys 2).I.toNat) ?_ ?_
 ·simp[-List.getD_eq_getElem?_getD,zAB]
  exact⟨0,⟨by simp[zCs],by omega,rfl⟩,by omega⟩
 ·rintro ys ⟨i,rfl,h2⟩
  refine hW.vc [] _ _ ?_
  simp[-List.getD_eq_getElem?_getD,zAB]
  rw[zCG,zC (n:=k+(i:Int)+1) (by omega),zC (n:=(i:Int)+1) (by omega)]
  refine fun _=>⟨fun h3=>⟨by omega,by omega,⟨i+1,⟨?_,by omega,by omega⟩,by omega⟩,by omega⟩,fun h3=>?_⟩
  ·exact zBY (zCG i k) (by omega) (zFo i k)
  ·have:i=es.length:=by omega
   subst this
   simp
def zAj(k:Int)(e:PV):Bool:=e.I == k
theorem zHk(n:Nat)(k:Int):zn zAj 1 k (zCs k n)=k+n:=by
 rw[zBy (m:=zCs) (fun _=>rfl) (fun k n=>⟨_,rfl,by simp[zAj,yp]⟩),Int.one_mul]
def zAV:zJ:=⟨[(.rd,.list (.int .i64)),(.rd,.int .i64)],[.int .i64],true,fun ps=>0≤(nth ps 1).I∧(nth ps 1).I+(nth ps 0).L.length≤1073741823,fun ps=>[.int .i64 (zn zAj 1 (nth ps 1).I (nth ps 0).L)],fun _=>[]⟩
theorem zHj:zh Tryz.prog 22 zAV:=by
 refine zP [0,1,4,5] [.tmp 4] (zD (zB [])) mixed Tryz.func22 rfl (by decide) rfl (by decide) rfl ?_
 intro ps hT hpre W hW
 simp only[zAV,TyA,Ty,Tys] at hT hpre
 obtain⟨_,_,rfl,⟨es,rfl,hes,tes⟩,_,_,rfl,⟨k,rfl,hk⟩,rfl⟩:=hT
 simp only[zE,zF,yp,zAA] at hpre
 refine hW.vc [] _ _ ?_
 simp[-List.getD_eq_getElem?_getD,zAV]
 refine hW.loopS _ _ _ [.sl 1 .dp (.int .i64),.sl 5 .dp (.int .i64)] (fun ys=>∃i:Nat,ys=[.int .i64 (k+i),.int .i64 i]∧i≤es.length∧zn zAj 1 k es=zn zAj 1 (k+i) (es.drop i)) (fun ys=>es.length - (nth ys 1).I.toNat) ?_ ?_
 ·simp[-List.getD_eq_getElem?_getD,zAV]
  exact⟨0,⟨by omega,rfl⟩,by omega,by simp⟩
 ·rintro ys ⟨i,rfl,h2,h3⟩
  refine hW.vc [] _ _ ?_
  simp[-List.getD_eq_getElem?_getD,zAV]
  rw[zC (n:=k+(i:Int)+1) (by omega),zC (n:=(i:Int)+1) (by omega)]
  refine fun _=>⟨fun h4=>⟨h4,fun _=>⟨fun h5=>?_,fun h5=>⟨⟨i+1,⟨by omega,by omega⟩,by omega,?_⟩,by omega⟩⟩⟩,fun h4=>?_⟩
  ·rw[h3,zG h4,zn,if_neg (by simp[zAj,h5])]
  ·have e:k+((i+1:Nat):Int)=k+i+1:=by omega
   rw[h3,zG h4,zn,if_pos (by simp[zAj,h5]),e]
  ·rw[h3,List.drop_eq_nil_of_le h4];rfl
end
section
variable [zS]
theorem zDx{l:Int}{n:Nat}(h:0≤l):zFH l n≤l∧-1≤zFH l n∧(0≤zFH l n→(n:Int)≤l):=by
 unfold zFH;split<;>omega
def zNc(a b:List PV):Bool:=(nth a 0).I == (nth b 0).I&&(nth a 1).I == (nth b 1).I&&(nth a 2).I == (nth b 2).I&&(nth a 3).I == (nth b 3).I&&(nth a 4).I == (nth b 4).I&&(nth a 5).B == (nth b 5).B&&eqL ze (nth a 6).L (nth b 6).L &&
 (nth a 7).I == (nth b 7).I&&(nth a 8).I == (nth b 8).I&&(nth a 9).I == (nth b 9).I&&eqL eqB (nth a 10).L (nth b 10).L&&eqL eqB (nth a 11).L (nth b 11).L&&eqL eqB (nth a 12).L (nth b 12).L
def zAH:zJ:=⟨[(.rd,.agg [.int .i64,.int .i64,.int .i64,.int .i64,.int .i64,.bool,.list (.agg [.int .i64,.str]),.int .i64,.int .i64,.int .i64,.list (.int .i64),.list (.int .i64),.list (.int .i64)]),(.rd,.agg [.int .i64,.int .i64,.int .i64,.int .i64,.int .i64,.bool,.list (.agg [.int .i64,.str]),.int .i64,.int .i64,.int .i64,.list (.int .i64),.list (.int .i64),.list (.int .i64)])],[.bool],true,fun _=>True,fun ps=>[.bool (zNc (nth ps 0).A (nth ps 1).A)],fun _=>[]⟩
theorem zNU:zh Tryz.prog 100 zAH:=by
 refine zP [0,1,2,3,4] [.tmp 4] (zA (cs:=[]) zLg (zA (cs:=[]) zFq (zD (zB [])))) mixed Tryz.func100 rfl (by decide) rfl (by decide) rfl ?_
 intro ps hT hpre W hW
 simp only[zAH,TyA,Ty,Tys] at hT hpre
 obtain⟨_,_,rfl,⟨_,rfl,_,_,rfl,⟨n0,rfl,hn0⟩,_,_,rfl,⟨n1,rfl,hn1⟩,_,_,rfl,⟨n2,rfl,hn2⟩,_,_,rfl,⟨n3,rfl,hn3⟩,_,_,rfl,⟨n4,rfl,hn4⟩,_,_,rfl,⟨u,rfl⟩,_,_,rfl,⟨es,rfl,hes,tes⟩,_,_,rfl,⟨n5,rfl,hn5⟩,_,_,rfl,⟨n6,rfl,hn6⟩,_,_,rfl,⟨n7,rfl,hn7⟩,_,_,rfl,⟨vs,rfl,hvs,tvs⟩,_,_,rfl,⟨xs,rfl,hxs,txs⟩,_,_,rfl,⟨ms,rfl,hms,tms⟩,rfl⟩,_,_,rfl,⟨_,rfl,_,_,rfl,⟨n0',rfl,hn0'⟩,_,_,rfl,⟨n1',rfl,hn1'⟩,_,_,rfl,⟨n2',rfl,hn2'⟩,_,_,rfl,⟨n3',rfl,hn3'⟩,_,_,rfl,⟨n4',rfl,hn4'⟩,_,_,rfl,⟨u',rfl⟩,_,_,rfl,⟨es',rfl,hes',tes'⟩,_,_,rfl,⟨n5',rfl,hn5'⟩,_,_,rfl,⟨n6',rfl,hn6'⟩,_,_,rfl,⟨n7',rfl,hn7'⟩,_,_,rfl,⟨vs',rfl,hvs',tvs'⟩,_,_,rfl,⟨xs',rfl,hxs',txs'⟩,_,_,rfl,⟨ms',rfl,hms',tms'⟩,rfl⟩,rfl⟩:=hT
 refine hW.vc [] _ _ ?_
 simp[-List.getD_eq_getElem?_getD,zAH,zm,zAR]
 simp only[zNc,zE,zF,yp,zNq,zAA]
 exact⟨fun q1=>by simp[q1],fun q1=>⟨fun q2=>by simp[q2],fun q2=>⟨fun q3=>by simp[q3],fun q3=>⟨fun q4=>by simp[q4],fun q4=>⟨fun q5=>by simp[q5],fun q5=>⟨fun q6=>by simp[q6],fun q6=>⟨fun q7=>by simp[q7],fun q7=>⟨fun q8=>by simp[q8],fun q8=>⟨fun q9=>by simp[q9],fun q9=>⟨fun q10=>by simp[q10],fun q10=>⟨fun q11=>by simp[q11],fun q11=>⟨fun q12=>by simp[q12],fun q12=>⟨fun q13=>by simp[q13],fun q13=>by simp[q1,q2,q3,q4,q5,q6,q7,q8,q9,q10,q11,q12,q13]⟩⟩⟩⟩⟩⟩⟩⟩⟩⟩⟩⟩⟩
theorem zGN(v:List PV):zNc v v=true:=by simp[zNc,y9 (f:=ze) zBj,zGQ]
def zL3(a b:List PV):Bool:=(nth a 0).I == (nth b 0).I&&(nth a 1).I == (nth b 1).I&&(nth a 2).I == (nth b 2).I&&(nth a 3).I == (nth b 3).I&&(nth a 4).I == (nth b 4).I&&(nth a 5).I == (nth b 5).I&&(nth a 6).I == (nth b 6).I&&(nth a 7).B == (nth b 7).B&&eqL ze (nth a 8).L (nth b 8).L
theorem zGP(v:List PV):zL3 v v=true:=by simp[zL3,y9 (f:=ze) zBj]
def zAs:zJ:=⟨[(.rd,.agg [.int .i64,.int .i64,.int .i64,.int .i64,.int .i64,.int .i64,.int .i64,.bool,.list (.agg [.int .i64,.str])]),(.rd,.agg [.int .i64,.int .i64,.int .i64,.int .i64,.int .i64,.int .i64,.int .i64,.bool,.list (.agg [.int .i64,.str])])],[.bool],true,fun _=>True,fun ps=>[.bool (zL3 (nth ps 0).A (nth ps 1).A)],fun _=>[]⟩
theorem zIN:zh Tryz.prog 102 zAs:=by
 refine zP [0,1,2,3,4] [.tmp 4] (zA (cs:=[]) zFq (zD (zB []))) mixed Tryz.func102 rfl (by decide) rfl (by decide) rfl ?_
 intro ps hT hpre W hW
 simp only[zAs,TyA,Ty,Tys] at hT hpre
 obtain⟨_,_,rfl,⟨_,rfl,_,_,rfl,⟨n0,rfl,hn0⟩,_,_,rfl,⟨n1,rfl,hn1⟩,_,_,rfl,⟨n2,rfl,hn2⟩,_,_,rfl,⟨n3,rfl,hn3⟩,_,_,rfl,⟨n4,rfl,hn4⟩,_,_,rfl,⟨n5,rfl,hn5⟩,_,_,rfl,⟨n6,rfl,hn6⟩,_,_,rfl,⟨u,rfl⟩,_,_,rfl,⟨es,rfl,hes,tes⟩,rfl⟩,_,_,rfl,⟨_,rfl,_,_,rfl,⟨n0',rfl,hn0'⟩,_,_,rfl,⟨n1',rfl,hn1'⟩,_,_,rfl,⟨n2',rfl,hn2'⟩,_,_,rfl,⟨n3',rfl,hn3'⟩,_,_,rfl,⟨n4',rfl,hn4'⟩,_,_,rfl,⟨n5',rfl,hn5'⟩,_,_,rfl,⟨n6',rfl,hn6'⟩,_,_,rfl,⟨u',rfl⟩,_,_,rfl,⟨es',rfl,hes',tes'⟩,rfl⟩,rfl⟩:=hT
 refine hW.vc [] _ _ ?_
 simp[-List.getD_eq_getElem?_getD,zAs,zm]
 simp only[zL3,zE,zF,yp,zNq,zAA]
 exact⟨fun q1=>by simp[q1],fun q1=>⟨fun q2=>by simp[q2],fun q2=>⟨fun q3=>by simp[q3],fun q3=>⟨fun q4=>by simp[q4],fun q4=>⟨fun q5=>by simp[q5],fun q5=>⟨fun q6=>by simp[q6],fun q6=>⟨fun q7=>by simp[q7],fun q7=>⟨fun q8=>by simp[q8],fun q8=>⟨fun q9=>by simp[q9],fun q9=>by simp[q1,q2,q3,q4,q5,q6,q7,q8,q9]⟩⟩⟩⟩⟩⟩⟩⟩⟩
def zDZ(a b:PV):Bool:=zL3 a.A b.A
theorem zGO(es:List PV):eqL zDZ es es=true:=y9 fun _=>zGP _
def zp:zJ:=⟨[(.rd,.list (.agg [.int .i64,.int .i64,.int .i64,.int .i64,.int .i64,.int .i64,.int .i64,.bool,.list (.agg [.int .i64,.str])])),(.rd,.list (.agg [.int .i64,.int .i64,.int .i64,.int .i64,.int .i64,.int .i64,.int .i64,.bool,.list (.agg [.int .i64,.str])]))],[.bool],true,fun _=>True,fun ps=>[.bool (eqL zDZ (nth ps 0).L (nth ps 1).L)],fun _=>[]⟩
theorem zHL:zh Tryz.prog 54 zp:=by
 refine zP [0,1,4,5] [.tmp 4] (zA (cs:=[]) zIN (zD (zB []))) mixed Tryz.func54 rfl (by decide) rfl (by decide) rfl ?_
 intro ps hT hpre W hW
 simp only[zp,TyA,Ty,Tys] at hT hpre
 obtain⟨_,_,rfl,⟨es,rfl,hes,tes⟩,_,_,rfl,⟨es2,rfl,hes2,tes2⟩,rfl⟩:=hT
 refine hW.vc [(6,[],tkN [0,1,2,3,4,5,6,7] (alS 8 (tkN [9] .done)))] _ _ ?_
 simp[-List.getD_eq_getElem?_getD,zp,zAs]
 refine fun h1 h2=>⟨fun h3=>zAX (by omega),fun h3=>?_⟩
 refine hW.loopS _ _ _ [.sl 5 .dp (.int .i64)] (fun ys=>∃i:Nat,ys=[.int .i64 i]∧i≤es.length∧eqL zDZ es es2=eqL zDZ (es.drop i) (es2.drop i)) (fun ys=>es.length - (nth ys 0).I.toNat) ?_ ?_
 ·simp[-List.getD_eq_getElem?_getD,zp,zAs]
  exact⟨0,rfl,by simp,by simp⟩
 ·rintro ys ⟨i,rfl,h4,h5⟩
  refine hW.vc [(6,[],tkN [0,1,2,3,4,5,6,7] (alS 8 (tkN [9] .done)))] _ _ ?_
  simp[-List.getD_eq_getElem?_getD,zp,zAs]
  refine fun _=>⟨fun h6=>⟨by decide +kernel,h6,fun _ _ _ _ _ _ _ _ _ _ _ _ _ _ _=>⟨by omega,fun _ _ _ _ _ _ _ _ _ _ _ _ _ _ _=>?_⟩⟩,fun h6=>?_⟩
  ·rw[zG h6,zG (by omega:i < es2.length),eqL] at h5
   have h8:zL3 [PV.int IntKind.i64 (nth (nth es i).A 0).I,PV.int IntKind.i64 (nth (nth es i).A 1).I,PV.int IntKind.i64 (nth (nth es i).A 2).I,PV.int IntKind.i64 (nth (nth es i).A 3).I,PV.int IntKind.i64 (nth (nth es i).A 4).I,PV.int IntKind.i64 (nth (nth es i).A 5).I,
      PV.int IntKind.i64 (nth (nth es i).A 6).I,PV.bool (nth (nth es i).A 7).B,PV.list (nth (nth es i).A 8).L]
     [PV.int IntKind.i64 (nth (nth es2 i).A 0).I,PV.int IntKind.i64 (nth (nth es2 i).A 1).I,PV.int IntKind.i64 (nth (nth es2 i).A 2).I,PV.int IntKind.i64 (nth (nth es2 i).A 3).I,PV.int IntKind.i64 (nth (nth es2 i).A 4).I,PV.int IntKind.i64 (nth (nth es2 i).A 5).I,
      PV.int IntKind.i64 (nth (nth es2 i).A 6).I,PV.bool (nth (nth es2 i).A 7).B,PV.list (nth (nth es2 i).A 8).L]=zDZ (nth es i) (nth es2 i):=rfl
   rw[zC (by omega),h8]
   refine⟨fun h7=>by rw[h5];simp[h7],fun h7=>⟨⟨i+1,by omega,by omega,by rw[h5];simp[h7]⟩,by omega⟩⟩
  ·rw[h5,List.drop_eq_nil_of_le h6,List.drop_eq_nil_of_le (by omega)];rfl
theorem zDh{f:Int→PV→Bool}{d:Int}(hd:0≤d):∀{es:List PV} {k:Int},0≤k→zn f d k es=-1∨zn f d k es=k+d*es.length
 | [],k,hk=>by simp[zn]
 | e :: es,k,hk=>by
  simp only[zn]
  split
  ·rcases zDh hd (es:=es) (k:=k+d) (by omega) with h | h
   ·exact .inl h
   ·refine .inr ?_
    rw[h,List.length_cons,Int.natCast_add,Int.mul_add];omega
  ·exact .inl rfl
end
section
variable [zS]
def msN(e:PV):Int:=8+2*(nth e.A 8).L.length
def zOf(k:Int):Bool:=k.tmod 3 == 0
def mkM(k:Int)(e:PV):PV:=.agg [.int .i64 k,.int .i64 (k+1),.int .i64 (k+2),.int .i64 (k+3),.int .i64 (k+4),.int .i64 (k+5),.int .i64 (k+6),.bool (zOf (k+7)),.list (zC8 (k+8) (nth e.A 8).L.length)]
def zAM(k:Int):List PV→Int
 | []=>k
 | e :: es=>zAM (k+msN e) es
def yw(k:Int):List PV→List PV
 | []=>[]
 | e :: es=>mkM k e :: yw (k+msN e) es
theorem zCj(x:PV):∀(es:List PV) (k:Int),zAM k (es++[x])=zAM k es+msN x
 | [],k=>rfl
 | e :: es,k=>by simp only[List.cons_append,zAM];exact zCj x es _
theorem zEf(x:PV):∀(es:List PV) (k:Int),yw k (es++[x])=yw k es++[mkM (zAM k es) x]
 | [],k=>rfl
 | e :: es,k=>by simp only[List.cons_append,yw,zAM];rw[zEf x es]
theorem zBF:∀(es:List PV) (k:Int),(yw k es).length=es.length
 | [],k=>rfl
 | e :: es,k=>by simp only[yw,List.length_cons,zBF es]
theorem zBU:∀(es:List PV) (k:Int),k≤zAM k es
 | [],k=>Int.le_refl _
 | e :: es,k=>by have:=zBU es (k+msN e);simp only[zAM];unfold msN at *;omega
theorem zFk(es:List PV)(k:Int){i:Nat}(h:i < es.length):zAM k (es.take i)+msN (nth es i)≤zAM k es:=by
 induction es generalizing k i with
 | nil=>simp at h
 | cons e es ih=>
  cases i with
  | zero=>rw[zE];exact zBU es (k+msN e)
  | succ i=>rw[zF];exact ih (k+msN e) (by simpa using h)
theorem zK6(k:Int)(e:PV):msN (mkM k e)=msN e:=by simp[msN,mkM,zE,zF,zBE,zAA,zBM]
def yW:zJ:=⟨[(.mt,.list (.agg [.int .i64,.int .i64,.int .i64,.int .i64,.int .i64,.int .i64,.int .i64,.bool,.list (.agg [.int .i64,.str])])),(.rd,.int .i64)],[.int .i64],true,fun ps=>0≤(nth ps 1).I∧zAM (nth ps 1).I (nth ps 0).L≤1073741823,fun ps=>[.int .i64 (zAM (nth ps 1).I (nth ps 0).L)],fun ps=>[.list (yw (nth ps 1).I (nth ps 0).L)]⟩
theorem zFJ:zh Tryz.prog 60 yW:=by
 refine zP [0,1,4,5] [.tmp 4] (zA (cs:=[]) zDu (zD (zB []))) mixed Tryz.func60 rfl (by decide) rfl (by decide) rfl ?_
 intro ps hT hpre W hW
 simp only[yW,TyA,Ty,Tys] at hT hpre
 obtain⟨_,_,rfl,⟨es,rfl,hes,tes⟩,_,_,rfl,⟨k,rfl,hk⟩,rfl⟩:=hT
 simp only[zE,zF,yp,zAA] at hpre
 refine hW.vc [] _ _ ?_
 simp[-List.getD_eq_getElem?_getD,yW,zs]
 refine hW.loopS _ _ _ [.ar 0 (.agg [.int .i64,.int .i64,.int .i64,.int .i64,.int .i64,.int .i64,.int .i64,.bool,.list (.agg [.int .i64,.str])]),.sl 1 .dp (.int .i64),.sl 5 .dp (.int .i64)] (fun ys=>∃i:Nat,ys=[.list (yw k (es.take i)++es.drop i),.int .i64 (zAM k (es.take i)),.int .i64 i]∧i≤es.length) (fun ys=>es.length - (nth ys 2).I.toNat) ?_ ?_
 ·simp[-List.getD_eq_getElem?_getD,yW,zs]
  exact⟨0,⟨by simp[yw],by simp[zAM],rfl⟩,by omega⟩
 ·rintro ys ⟨i,rfl,h2⟩
  by_cases h3:i < es.length
  ·have h4:i < (yw k (es.take i)++es.drop i).length:=by rw[List.length_append,zBF,List.length_take,List.length_drop];omega
   have h5:(yw k (es.take i)++es.drop i).length=es.length:=by rw[List.length_append,zBF,List.length_take,List.length_drop];omega
   obtain⟨L,hL⟩:∃L,L=yw k (es.take i)++es.drop i:=⟨_,rfl⟩
   obtain⟨K,hK⟩:∃K,K=zAM k (es.take i):=⟨_,rfl⟩
   rw[←hL] at h4 h5
   rw[←hL,←hK]
   have h6:∀x,nth (L.set i x) i=x:=fun x=>zEc h4
   refine hW.vc [] _ _ ?_
   simp[-List.getD_eq_getElem?_getD,yW,zs,h6]
   have g1:=zFk es k h3
   have g2:=zBU (es.take i) k
   rw[←hK] at g1 g2
   have g3:nth L i=nth es i:=by rw[hL,zG h3];simp[nth,List.getElem?_append_right,zBF,List.length_take,Nat.min_eq_left h2]
   have g4:msN (nth es i)=8+2*(nth (nth es i).A 8).L.length:=rfl
   rw[g3]
   have e1:IntKind.i64.wrap (K+1)=K+1:=zC (by omega)
   have e2:IntKind.i64.wrap (K+1+1)=K+2:=by rw[zC (by omega)];omega
   have e3:IntKind.i64.wrap (K+2+1)=K+3:=by rw[zC (by omega)];omega
   have e4:IntKind.i64.wrap (K+3+1)=K+4:=by rw[zC (by omega)];omega
   have e5:IntKind.i64.wrap (K+4+1)=K+5:=by rw[zC (by omega)];omega
   have e6:IntKind.i64.wrap (K+5+1)=K+6:=by rw[zC (by omega)];omega
   have e7:IntKind.i64.wrap (K+6+1)=K+7:=by rw[zC (by omega)];omega
   have e8:IntKind.i64.wrap (K+7+1)=K+8:=by rw[zC (by omega)];omega
   have e9:IntKind.i64.wrap ((i:Int)+1)=(i:Int)+1:=zC (by rw[LIM] at hes;omega)
   simp only[e1,e2,e3,e4,e5,e6,e7,e8,e9]
   refine fun _=>⟨fun _=>⟨h4,fun _=>⟨⟨by omega,by omega⟩,⟨i+1,⟨?_,?_,by omega⟩,by omega⟩,by omega⟩⟩,fun h=>by omega⟩
   ·rw[zd h3,zEf,hL]
    exact zBY (by rw[zBF,List.length_take];omega) h3 (by rw[hK];rfl)
   ·rw[zd h3,zCj,←hK,g4];omega
  ·have:i=es.length:=by omega
   subst this
   have h4:yw k (es.take es.length)++es.drop es.length=yw k es:=by simp
   have h5:(yw k es).length=es.length:=zBF es k
   rw[h4,List.take_length]
   obtain⟨L,hL⟩:∃L,L=yw k es:=⟨_,rfl⟩
   rw[←hL] at h5 ⊢
   have h6:∀x,nth (L.set es.length x) es.length=PV.d:=fun x=>by simp[nth,h5]
   refine hW.vc [] _ _ ?_
   simp[-List.getD_eq_getElem?_getD,yW,zs,h6,h5]
   exact fun _=>hL
def zBW(k:Int)(e:PV):Bool:=(nth e.A 0).I == k&&(nth e.A 1).I == k+1&&(nth e.A 2).I == k+2&&(nth e.A 3).I == k+3&&(nth e.A 4).I == k+4&&(nth e.A 5).I == k+5&&(nth e.A 6).I == k+6&&(nth e.A 7).B == zOf (k+7)&&zn zBN 2 (k+8) (nth e.A 8).L == k+msN e
def zBV(k:Int):List PV→Int
 | []=>k
 | e :: es=>if zBW k e then zBV (k+msN e) es else -1
theorem zEm:∀(es:List PV) (k:Int),zBV k (yw k es)=zAM k es
 | [],k=>rfl
 | e :: es,k=>by
  rw[yw,zBV,if_pos,zK6,zEm es,zAM]
  rw[zBW,zK6]
  simp[mkM,msN,zE,zF,zBE,yp,zAA,zNq,zFr]
  omega
def yn:zJ:=⟨[(.rd,.list (.agg [.int .i64,.int .i64,.int .i64,.int .i64,.int .i64,.int .i64,.int .i64,.bool,.list (.agg [.int .i64,.str])])),(.rd,.int .i64)],[.int .i64],true,fun ps=>0≤(nth ps 1).I∧zAM (nth ps 1).I (nth ps 0).L≤1073741823,fun ps=>[.int .i64 (zBV (nth ps 1).I (nth ps 0).L)],fun _=>[]⟩
set_option maxHeartbeats 1000000 in
theorem zFL:zh Tryz.prog 64 yn:=by
 refine zP [0,1,4,5] [.tmp 4] (zA (cs:=[]) zDv (zD (zB []))) mixed Tryz.func64 rfl (by decide) rfl (by decide) rfl ?_
 intro ps hT hpre W hW
 simp only[yn,TyA,Ty,Tys] at hT hpre
 obtain⟨_,_,rfl,⟨es,rfl,hes,tes⟩,_,_,rfl,⟨k,rfl,hk⟩,rfl⟩:=hT
 simp only[zE,zF,yp,zAA] at hpre
 refine hW.vc [] _ _ ?_
 simp[-List.getD_eq_getElem?_getD,yn,yB]
 refine hW.loopS _ _ _ [.sl 1 .dp (.int .i64),.sl 5 .dp (.int .i64)] (fun ys=>∃i:Nat,ys=[.int .i64 (zAM k (es.take i)),.int .i64 i]∧i≤es.length∧zBV k es=zBV (zAM k (es.take i)) (es.drop i)) (fun ys=>es.length - (nth ys 1).I.toNat) ?_ ?_
 ·simp[-List.getD_eq_getElem?_getD,yn,yB]
  exact⟨0,⟨by simp[zAM],rfl⟩,by omega,by simp[zAM]⟩
 ·rintro ys ⟨i,rfl,h2,h3⟩
  refine hW.vc [] _ _ ?_
  simp[-List.getD_eq_getElem?_getD,yn,yB]
  by_cases h4:i < es.length
  ·have g1:=zFk es k h4
   have g2:=zBU (es.take i) k
   obtain⟨K,hK⟩:∃K,K=zAM k (es.take i):=⟨_,rfl⟩
   rw[←hK] at g1 g2 h3 ⊢
   have g4:msN (nth es i)=8+2*(nth (nth es i).A 8).L.length:=rfl
   rw[zG h4,zBV] at h3
   have no:zBW K (nth es i)=false→zBV k es=-1:=fun q=>by rw[h3,if_neg (by rw[q];simp)]
   have e1:IntKind.i64.wrap (K+1)=K+1:=zC (by omega)
   have e2:IntKind.i64.wrap (K+1+1)=K+2:=by rw[zC (by omega)];omega
   have e3:IntKind.i64.wrap (K+2+1)=K+3:=by rw[zC (by omega)];omega
   have e4:IntKind.i64.wrap (K+3+1)=K+4:=by rw[zC (by omega)];omega
   have e5:IntKind.i64.wrap (K+4+1)=K+5:=by rw[zC (by omega)];omega
   have e6:IntKind.i64.wrap (K+5+1)=K+6:=by rw[zC (by omega)];omega
   have e7:IntKind.i64.wrap (K+6+1)=K+7:=by rw[zC (by omega)];omega
   have e8:IntKind.i64.wrap (K+7+1)=K+8:=by rw[zC (by omega)];omega
   have e9:IntKind.i64.wrap ((i:Int)+1)=(i:Int)+1:=zC (by rw[LIM] at hes;omega)
   simp only[e1,e2,e3,e4,e5,e6,e7,e8,e9]
   have b1:0≤K+8∧K+8+2*((nth (nth es i).A 8).L.length:Int)≤1073741823:=⟨by omega,by omega⟩
   have a1:=zDh (f:=zBN) (d:=2) (by omega) (es:=(nth (nth es i).A 8).L) (k:=K+8) (by omega)
   obtain⟨H,hH⟩:∃H,H=zn zBN 2 (K+8) (nth (nth es i).A 8).L:=⟨_,rfl⟩
   rw[←hH] at a1 ⊢
   have b2:H < 0→¬H=K+msN (nth es i):=fun _=>by omega
   have b3:0≤H→H=K+msN (nth es i):=fun _=>by omega
   have b4:es.length≤i→False:=fun _=>by omega
   have b5:(i:Int)+1=((i+1:Nat):Int):=rfl
   have b6:i+1≤es.length:=h4
   have b7:es.length - ((i:Int)+1).toNat < es.length - i:=by omega
   refine fun _=>⟨fun _=>⟨h4,fun _=>⟨fun q=>(no (by simp[zBW,q])).symm,fun q0=>⟨h4,fun _=>⟨fun q=>(no (by simp[zBW,q])).symm,fun q1=>⟨h4,fun _=>⟨fun q=>(no (by simp[zBW,q])).symm,fun q2=>
    ⟨h4,fun _=>⟨fun q=>(no (by simp[zBW,q])).symm,fun q3=>⟨h4,fun _=>⟨fun q=>(no (by simp[zBW,q])).symm,fun q4=>⟨h4,fun _=>⟨fun q=>(no (by simp[zBW,q])).symm,fun q5=>
    ⟨h4,fun _=>⟨fun q=>(no (by simp[zBW,q])).symm,fun q6=>⟨h4,fun _=>⟨fun q=>(no (by simp[zBW,zOf,q])).symm,fun q7=>⟨h4,fun _=>?_⟩⟩⟩⟩⟩⟩⟩⟩⟩⟩⟩⟩⟩⟩⟩⟩⟩,fun h=>(b4 h).elim⟩
   refine⟨b1,fun q=>(no ?_).symm,fun q8=>?_⟩
   ·have:=b2 q
    rw[hH] at this
    simp[zBW,this]
   ·have a2:=b3 q8
    have a3:zBW K (nth es i)=true:=by rw[hH] at a2;simp[zBW,q0,q1,q2,q3,q4,q5,q6,q7,a2,zOf]
    rw[if_pos a3] at h3
    refine⟨⟨i+1,⟨?_,b5⟩,b6,?_⟩,b7⟩
    ·rw[zd h4,zCj,←hK,a2]
    ·rw[zd h4,zCj,←hK,h3]
  ·have:i=es.length:=by omega
   subst this
   refine fun _=>⟨fun h=>absurd h (Nat.lt_irrefl _),fun _=>?_⟩
   rw[h3,List.drop_length];rfl
end
section
variable [zS]
theorem zGF:zGk [] ST.one:=⟨by simp[zBw,zCB],by simp[zBw,zCB,zBK]⟩
end
section
variable [zS]
theorem zJ8{n:ND}(h:NdF n):0≤zCI n.log n.log.length∧zCI n.log n.log.length≤n.term:=by
 have t0:=h.t0
 unfold zCI
 split
 ·omega
 ·have:=zI5 h.en (n.log.length - 1) (by omega)
  have e:((n.log.length:Int) - 1).toNat=n.log.length - 1:=by omega
  rw[e];omega
theorem zDL{n:ND}(h:NdF n)(ht:1≤n.term):∀k:Nat,(k:Int)≤n.nodes→∀e∈zAl n k,mgV n.nodes e
 | 0,_,e,hm=>by simp[zAl] at hm
 | k+1,hk,e,hm=>by
  rw[zAl] at hm
  rcases List.mem_append.1 hm with hm | hm
  ·exact zDL h ht k (by omega) e hm
  ·split at hm
   ·simp at hm
   ·rename_i hne
    rw[List.mem_singleton.1 hm]
    have i0:=h.i0;have i1:=h.i1;have n5:=h.n5;have t1:=h.t1;have l6:=h.l6
    have:=zJ8 h
    exact zOg (m:=⟨1,n.id,k,n.term,n.log.length,zCI n.log n.log.length,0,false,[]⟩) (by simp only;omega) (by simp only;omega) (by simp only;omega) n5 (by simp only;omega) (by simp only;omega) (by simp only;omega) (by simp only;omega) this (by rw[if_neg (by simp)]) (by simp)
theorem zM4{n:ND}{d:Int}(h:NdF n)(hd:0≤d)(hu:n.up=true)(hr:n.role≠0→1≤n.term)(he:∀e∈n.log,isE e):(∀e∈(zBD n d).1.log,isE e)∧∀e∈(zBD n d).2,mgV n.nodes e:=by
 have t0:=h.t0;have t1:=h.t1;have n1:=h.n1
 unfold zBD
 split
 ·rename_i h2
  split
  ·exact⟨he,by simp⟩
  ·exact⟨he,zDO (n:={ n with ela:=0 }) h.ela0 (hr (by omega)) he _ (by show(n.nodes.toNat:Int)≤n.nodes;omega)⟩
 ·split
  ·exact⟨he,by simp⟩
  ·rename_i h1 h2
   have h3:n.term≠1000:=fun e=>h2 (.inr e)
   have hS:=zJH (d:=d) h (by omega) hd hu
   unfold zEH
   split
   ·have hL:=zLz hS (by show 1≤n.term+1;omega) hu
    have hE:=zP6 (n:=zBf n d) he
    exact⟨hE,zDO hL (by show 1≤n.term+1;omega) hE _ (by show(n.nodes.toNat:Int)≤n.nodes;omega)⟩
   ·exact⟨he,zDL hS (by show 1≤n.term+1;omega) _ (by show(n.nodes.toNat:Int)≤n.nodes;omega)⟩
end
section
variable [zS]
def zDV(a b:PV):Bool:=zNc a.A b.A
theorem zE0(es:List PV):eqL zDV es es=true:=y9 fun _=>zGN _
def zBs:zJ:=⟨[(.rd,.list (.agg [.int .i64,.int .i64,.int .i64,.int .i64,.int .i64,.bool,.list (.agg [.int .i64,.str]),.int .i64,.int .i64,.int .i64,.list (.int .i64),.list (.int .i64),.list (.int .i64)])),(.rd,.list (.agg [.int .i64,.int .i64,.int .i64,.int .i64,.int .i64,.bool,.list (.agg [.int .i64,.str]),.int .i64,.int .i64,.int .i64,.list (.int .i64),.list (.int .i64),.list (.int .i64)]))],[.bool],true,fun _=>True,fun ps=>[.bool (eqL zDV (nth ps 0).L (nth ps 1).L)],fun _=>[]⟩
theorem zLF:zh Tryz.prog 52 zBs:=by
 refine zP [0,1,4,5] [.tmp 4] (zA (cs:=[]) zNU (zD (zB []))) mixed Tryz.func52 rfl (by decide) rfl (by decide) rfl ?_
 intro ps hT hpre W hW
 simp only[zBs,TyA,Ty,Tys] at hT hpre
 obtain⟨_,_,rfl,⟨es,rfl,hes,tes⟩,_,_,rfl,⟨es2,rfl,hes2,tes2⟩,rfl⟩:=hT
 refine hW.vc [(6,[],tkN [0,1,2,3,4,5,6,7] (alS 8 (tkN [9] .done)))] _ _ ?_
 simp[-List.getD_eq_getElem?_getD,zBs,zAH]
 refine fun h1 h2=>⟨fun h3=>zAX (by omega),fun h3=>?_⟩
 refine hW.loopS _ _ _ [.sl 5 .dp (.int .i64)] (fun ys=>∃i:Nat,ys=[.int .i64 i]∧i≤es.length∧eqL zDV es es2=eqL zDV (es.drop i) (es2.drop i)) (fun ys=>es.length - (nth ys 0).I.toNat) ?_ ?_
 ·simp[-List.getD_eq_getElem?_getD,zBs,zAH]
  exact⟨0,rfl,by simp,by simp⟩
 ·rintro ys ⟨i,rfl,h4,h5⟩
  refine hW.vc [(6,[],tkN [0,1,2,3,4,5,6,7] (alS 8 (tkN [9] .done)))] _ _ ?_
  simp[-List.getD_eq_getElem?_getD,zBs,zAH]
  refine fun _=>⟨fun h6=>⟨by decide +kernel,h6,?_⟩,fun h6=>?_⟩
  ·intros
   refine⟨by omega,?_⟩
   intros
   rw[zG h6,zG (by omega:i < es2.length),eqL] at h5
   rw[zC (n:=(i:Int)+1) (by omega)]
   refine⟨fun h7=>?_,fun h7=>⟨⟨i+1,by omega,by omega,?_⟩,by omega⟩⟩
   ·have h8:zDV (nth es i) (nth es2 i)=false:=h7
    rw[h5,h8];rfl
   ·have h8:zDV (nth es i) (nth es2 i)=true:=h7
    rw[h5,h8,Bool.true_and]
  ·rw[h5,List.drop_eq_nil_of_le h6,List.drop_eq_nil_of_le (by omega)];rfl
def zGK(a b:List PV):Bool:=(nth a 0).S == (nth b 0).S&&(nth a 1).I == (nth b 1).I
def zBT(a b:PV):Bool:=zGK a.A b.A
theorem zEz(a:List PV):zGK a a=true:=by simp[zGK]
theorem zEC(es:List PV):eqL zBT es es=true:=y9 fun _=>zEz _
def zBr:zJ:=⟨[(.rd,.agg [.str,.int .i64]),(.rd,.agg [.str,.int .i64])],[.bool],true,fun _=>True,fun ps=>[.bool (zGK (nth ps 0).A (nth ps 1).A)],fun _=>[]⟩
theorem zLE:zh Tryz.prog 101 zBr:=by
 refine zP [0,1,2,3,4] [.tmp 4] (zD (zB [])) mixed Tryz.func101 rfl (by decide) rfl (by decide) rfl ?_
 intro ps hT hpre W hW
 simp only[zBr,TyA,Ty,Tys] at hT hpre
 obtain⟨_,_,rfl,⟨_,rfl,_,_,rfl,⟨c,rfl,hc⟩,_,_,rfl,⟨y,rfl,hy⟩,rfl⟩,_,_,rfl,⟨_,rfl,_,_,rfl,⟨c',rfl,hc'⟩,_,_,rfl,⟨y',rfl,hy'⟩,rfl⟩,rfl⟩:=hT
 refine hW.vc [] _ _ ?_
 simp[-List.getD_eq_getElem?_getD,zBr]
 simp only[zGK,zE,zF,yp,zEW]
 exact⟨fun q1=>by simp[q1],fun q1=>⟨fun q2=>by simp[q2],fun q2=>by simp[q1,q2]⟩⟩
def zBG:zJ:=⟨[(.rd,.list (.agg [.str,.int .i64])),(.rd,.list (.agg [.str,.int .i64]))],[.bool],true,fun _=>True,fun ps=>[.bool (eqL zBT (nth ps 0).L (nth ps 1).L)],fun _=>[]⟩
theorem zJk:zh Tryz.prog 53 zBG:=by
 refine zP [0,1,4,5] [.tmp 4] (zA (cs:=[]) zLE (zD (zB []))) mixed Tryz.func53 rfl (by decide) rfl (by decide) rfl ?_
 intro ps hT hpre W hW
 simp only[zBG,TyA,Ty,Tys] at hT hpre
 obtain⟨_,_,rfl,⟨es,rfl,hes,tes⟩,_,_,rfl,⟨es2,rfl,hes2,tes2⟩,rfl⟩:=hT
 refine hW.vc [(6,[],tkN [0,1,2,3,4,5,6,7] (alS 8 (tkN [9] .done)))] _ _ ?_
 simp[-List.getD_eq_getElem?_getD,zBG,zBr]
 refine fun h1 h2=>⟨fun h3=>zAX (by omega),fun h3=>?_⟩
 refine hW.loopS _ _ _ [.sl 5 .dp (.int .i64)] (fun ys=>∃i:Nat,ys=[.int .i64 i]∧i≤es.length∧eqL zBT es es2=eqL zBT (es.drop i) (es2.drop i)) (fun ys=>es.length - (nth ys 0).I.toNat) ?_ ?_
 ·simp[-List.getD_eq_getElem?_getD,zBG,zBr]
  exact⟨0,rfl,by simp,by simp⟩
 ·rintro ys ⟨i,rfl,h4,h5⟩
  refine hW.vc [(6,[],tkN [0,1,2,3,4,5,6,7] (alS 8 (tkN [9] .done)))] _ _ ?_
  simp[-List.getD_eq_getElem?_getD,zBG,zBr]
  refine fun _=>⟨fun h6=>⟨by decide +kernel,h6,?_⟩,fun h6=>?_⟩
  ·intros
   refine⟨by omega,?_⟩
   intros
   rw[zG h6,zG (by omega:i < es2.length),eqL] at h5
   rw[zC (n:=(i:Int)+1) (by omega)]
   refine⟨fun h7=>?_,fun h7=>⟨⟨i+1,by omega,by omega,?_⟩,by omega⟩⟩
   ·have h8:zBT (nth es i) (nth es2 i)=false:=h7
    rw[h5,h8];rfl
   ·have h8:zBT (nth es i) (nth es2 i)=true:=h7
    rw[h5,h8,Bool.true_and]
  ·rw[h5,List.drop_eq_nil_of_le h6,List.drop_eq_nil_of_le (by omega)];rfl
def zHd(a b:List PV):Bool:=eqL zDV (nth a 0).L (nth b 0).L&&eqL zBT (nth a 1).L (nth b 1).L&&eqL zDZ (nth a 2).L (nth b 2).L&&eqL (fun x y=>x.S == y.S) (nth a 3).L (nth b 3).L
theorem zE1(a:List PV):zHd a a=true:=by simp[zHd,zE0,zEC,zGO,y9]
def yA:zJ:=⟨[(.rd,.agg [.list (.agg [.int .i64,.int .i64,.int .i64,.int .i64,.int .i64,.bool,.list (.agg [.int .i64,.str]),.int .i64,.int .i64,.int .i64,.list (.int .i64),.list (.int .i64),.list (.int .i64)]),.list (.agg [.str,.int .i64]),.list (.agg [.int .i64,.int .i64,.int .i64,.int .i64,.int .i64,.int .i64,.int .i64,.bool,.list (.agg [.int .i64,.str])]),.list .str]),(.rd,.agg [.list (.agg [.int .i64,.int .i64,.int .i64,.int .i64,.int .i64,.bool,.list (.agg [.int .i64,.str]),.int .i64,.int .i64,.int .i64,.list (.int .i64),.list (.int .i64),.list (.int .i64)]),.list (.agg [.str,.int .i64]),.list (.agg [.int .i64,.int .i64,.int .i64,.int .i64,.int .i64,.int .i64,.int .i64,.bool,.list (.agg [.int .i64,.str])]),.list .str])],[.bool],true,fun _=>True,fun ps=>[.bool (zHd (nth ps 0).A (nth ps 1).A)],fun _=>[]⟩
theorem zIO:zh Tryz.prog 15 yA:=by
 refine zP [0,1,2,3,4] [.tmp 4] (zA (cs:=[]) zIM (zA (cs:=[]) zHL (zA (cs:=[]) zJk (zA (cs:=[]) zLF (zD (zB [])))))) mixed Tryz.func15 rfl (by decide) rfl (by decide) rfl ?_
 intro ps hT hpre W hW
 simp only[yA,TyA,Ty,Tys] at hT hpre
 obtain⟨_,_,rfl,⟨_,rfl,_,_,rfl,⟨ns,rfl,hns,tns⟩,_,_,rfl,⟨ss,rfl,hss,tss⟩,_,_,rfl,⟨ws,rfl,hws,tws⟩,_,_,rfl,⟨ds,rfl,hds,tds⟩,rfl⟩,_,_,rfl,⟨_,rfl,_,_,rfl,⟨ns',rfl,hns',tns'⟩,_,_,rfl,⟨ss',rfl,hss',tss'⟩,_,_,rfl,⟨ws',rfl,hws',tws'⟩,_,_,rfl,⟨ds',rfl,hds',tds'⟩,rfl⟩,rfl⟩:=hT
 refine hW.vc [] _ _ ?_
 simp[-List.getD_eq_getElem?_getD,yA,zBs,zBG,zp,zM]
 simp only[zHd,zE,zF,zAA]
 trace_state
 exact⟨fun q1=>by simp[q1],fun q1=>⟨fun q2=>by simp[q2],fun q2=>⟨fun q3=>by simp[q3],fun q3=>⟨fun q4=>by simp[q4],fun q4=>by simp[q1,q2,q3,q4]⟩⟩⟩⟩
end
section
variable [zS]
def zCA(nodes:Int):Nat→List PV
 | 0=>[]
 | k+1=>zCA nodes k++[(zCr k nodes 0 (-1) []).pv]
theorem yL(nodes:Int):∀k,(zCA nodes k).length=k
 | 0=>rfl
 | k+1=>by simp[zCA,yL nodes k]
def st0:PV:=.agg [.str [],.int .i64 0]
def zH:zJ:=⟨[(.rd,.int .i64)],[.agg [.list (.agg [.int .i64,.int .i64,.int .i64,.int .i64,.int .i64,.bool,.list (.agg [.int .i64,.str]),.int .i64,.int .i64,.int .i64,.list (.int .i64),.list (.int .i64),.list (.int .i64)]),.list (.agg [.str,.int .i64]),.list (.agg [.int .i64,.int .i64,.int .i64,.int .i64,.int .i64,.int .i64,.int .i64,.bool,.list (.agg [.int .i64,.str])]),.list .str]],true,fun ps=>1≤(nth ps 0).I∧(nth ps 0).I≤5,fun ps=>[.agg [.list (zCA (nth ps 0).I (nth ps 0).I.toNat),.list (List.replicate (nth ps 0).I.toNat st0),.list [],.list []]],fun _=>[]⟩
theorem zEi:zh Tryz.prog 50 zH:=by
 refine zP [0,2,3,4,8,9] [.cell 2 29] (zA (cs:=[]) zLC (zD (zB []))) mixed Tryz.func50 rfl (by decide) rfl (by decide) rfl ?_
 intro ps hT hpre W hW
 simp only[zH,TyA,Ty,Tys] at hT hpre
 obtain⟨_,_,rfl,⟨nodes,rfl,hnodes⟩,rfl⟩:=hT
 simp only[zE,zF,yp] at hpre
 refine hW.vc [(5,[6,8],tkN [0,1,2,3] (alN [4,5,6] (tkN [7] (alS 8 .done))))] _ _ ?_
 simp[-List.reduceReplicate,-List.getD_eq_getElem?_getD,zH,zCe]
 refine⟨⟨by omega,by omega,by omega⟩,?_⟩
 refine hW.loopS _ _ _ [.bx 3 [.list (.agg [.int .i64,.int .i64,.int .i64,.int .i64,.int .i64,.bool,.list (.agg [.int .i64,.str]),.int .i64,.int .i64,.int .i64,.list (.int .i64),.list (.int .i64),.list (.int .i64)]),.list (.agg [.str,.int .i64]),.list (.agg [.int .i64,.int .i64,.int .i64,.int .i64,.int .i64,.int .i64,.int .i64,.bool,.list (.agg [.int .i64,.str])]),.list .str],.sl 9 .dp (.int .i64)] (fun ys=>∃i:Nat,ys=[.agg [.list (zCA nodes i),.list (List.replicate nodes.toNat st0),.list [],.list []],.int .i64 i]∧(i:Int)≤nodes) (fun ys=>nodes.toNat - (nth ys 1).I.toNat) ?_ ?_
 ·simp[-List.reduceReplicate,-List.getD_eq_getElem?_getD,zH,zCe]
  exact⟨0,⟨⟨rfl,.inr rfl⟩,rfl⟩,by omega⟩
 ·rintro ys ⟨i,rfl,g1⟩
  have w1:IntKind.i64.wrap ((i:Int)+1)=i+1:=zC (by omega)
  have hl:=yL nodes i
  refine hW.vc [(5,[6,8],tkN [0,1,2,3] (alN [4,5,6] (tkN [7] (alS 8 .done))))] _ _ ?_
  simp[-List.reduceReplicate,-List.getD_eq_getElem?_getD,zH,zCe,zCr,ND.pv,w1]
  refine⟨fun h=>⟨by decide +kernel,⟨by omega,by omega,by omega⟩,by omega,fun _=>⟨⟨i+1,⟨rfl,rfl⟩,by omega⟩,by omega⟩⟩,fun h=>?_⟩
  have:i=nodes.toNat:=by omega
  rw[this]
def zv:zJ:=zH
theorem zF8:zh Tryz.prog 46 zv:=by
 refine zP [0,2,3,4] [.cell 2 29] (zA (cs:=[]) zLf (zD (zB []))) mixed Tryz.func46 rfl (by decide) rfl (by decide) rfl ?_
 intro ps hT hpre W hW
 simp only[zv,TyA,Ty,Tys] at hT hpre
 simp only[zH,TyA,Ty,Tys] at hT hpre
 obtain⟨_,_,rfl,⟨nodes,rfl,hnodes⟩,rfl⟩:=hT
 simp only[zE,zF,yp] at hpre
 refine hW.vc [(5,[7,9],tkN [0,1,2,3,4] (alN [5,6,7] (tkN [8] (alS 9 .done))))] _ _ ?_
 simp[-List.reduceReplicate,-List.getD_eq_getElem?_getD,zv,zB2,zH,zH]
 refine hW.loopS _ _ _ [.bx 3 [.list (.agg [.int .i64,.int .i64,.int .i64,.int .i64,.int .i64,.bool,.list (.agg [.int .i64,.str]),.int .i64,.int .i64,.int .i64,.list (.int .i64),.list (.int .i64),.list (.int .i64)]),.list (.agg [.str,.int .i64]),.list (.agg [.int .i64,.int .i64,.int .i64,.int .i64,.int .i64,.int .i64,.int .i64,.bool,.list (.agg [.int .i64,.str])]),.list .str],.sl 4 .dp (.int .i64)] (fun ys=>∃i:Nat,ys=[.agg [.list (zCA nodes i),.list (List.replicate i st0),.list [],.list []],.int .i64 i]∧(i:Int)≤nodes) (fun ys=>nodes.toNat - (nth ys 1).I.toNat) ?_ ?_
 ·simp[-List.reduceReplicate,-List.getD_eq_getElem?_getD,zv,zB2,zH]
  exact⟨0,⟨⟨rfl,rfl⟩,rfl⟩,by omega⟩
 ·rintro ys ⟨i,rfl,g1⟩
  have w1:IntKind.i64.wrap ((i:Int)+1)=i+1:=zC (by omega)
  have hl:=yL nodes i
  refine hW.vc [(5,[7,9],tkN [0,1,2,3,4] (alN [5,6,7] (tkN [8] (alS 9 .done))))] _ _ ?_
  simp[-List.reduceReplicate,-List.getD_eq_getElem?_getD,zv,zB2,zH,zCr,ND.pv,w1,zH]
  refine⟨fun h=>⟨by decide +kernel,⟨by omega,by omega,by omega⟩,by omega,fun _=>⟨by omega,fun _=>⟨⟨i+1,⟨⟨rfl,(List.replicate_succ').symm⟩,rfl⟩,by omega⟩,by omega⟩⟩⟩,fun h=>?_⟩
  have:i=nodes.toNat:=by omega
  exact⟨by rw[←this],this⟩
end
section
variable [zS]
theorem zWQ{cnt:Int}{i:Nat}{n:ND}{b:List UInt8}(a4:NdI cnt i n b){d:Int}(hrt:n.role≠0→1≤n.term)(hr:(zJY n d).2.2=0):TkI cnt n i (zJY n d)∧zJY n d=((zBD n d).1,(zBD n d).2,0)∧0≤d∧d≤1000000∧n.up=true:=by
 unfold zJY at hr ⊢
 cases c1:zB9 n with
 | false=>rw[c1] at hr;simp at hr
 | true=>
  rw[c1] at hr
  simp only[cond_true] at hr ⊢
  cases c2:inB d 0 1000000 with
  | false=>rw[c2] at hr;simp at hr
  | true=>
   rw[c2] at hr
   simp only[cond_true] at hr ⊢
   have hd:=zk.1 c2
   cases c3:n.up with
   | false=>rw[c3] at hr;simp at hr
   | true=>
    simp only[cond_true,and_true]
    have hS:=zRH (d:=d) a4.F
    have hV:=zM4 a4.F hd.1 c3 hrt a4.e
    have nds:=a4.nds
    refine⟨⟨zPS a4.F hd.1 c3,by rw[hS.i];exact a4.id,by rw[hS.nd];exact nds,hV.1,hS.t0,fun a ha=>?_,hS.rt,hS.mono (l:=1000) (by decide)⟩,trivial,hd⟩
    have:=hV.2 a ha
    rw[nds] at this
    exact this
theorem zKI{n:ND}{d:List UInt8}(hF:NdF n)(ht:1≤n.term)(hl:(n.log.length:Int)≠60)(hd:leB d.length 400=true):NdF (yG n d):=by
 have l6:=hF.l6
 have c0:=hF.c0;have c1:=hF.c1
 have hc:=zFh (zAe n d) hF.c0 (n.log.length+1)
 have hcl:(zAe n d).com=n.com:=rfl
 have hcm:(yG n d).com=zGi (zAe n d) (n.log.length+1):=rfl
 have hll:((yG n d).log.length:Int)=n.log.length+1:=by show((n.log++[_]).length:Int)=_;simp
 have hen:zIr n.term 0 (n.log++[.agg [.int .i64 n.term,.str d]])=true:=zIY (e:=.agg [.int .i64 n.term,.str d]) hd ht rfl (by omega) hF.en
 have hl60:(yG n d).log.length≤60:=by omega
 have hnm:=zKO (l:=n.log.length) (l':=(yG n d).log.length) (by omega) hF.nm
 exact⟨hF.n1,hF.n5,hF.i0,hF.i1,hF.t0,hF.t1,hen,hl60,hF.r0,hF.r2,hF.ur,by show 0≤(yG n d).com;omega,by show(yG n d).com≤((yG n d).log.length:Int);omega,hF.e0,hF.e1,hF.w5,hF.w1,hF.nx,hF.ms,hF.vo,hnm,hF.vt⟩
theorem zNI{n:ND}{d:List UInt8}(hF:NdF n):Stp n (yG n d) 0:=
 ⟨Int.le_refl _,by show n.term≤n.term+0;omega,(zFh (zAe n d) hF.c0 (n.log.length+1)).1,fun _ _=>rfl,rfl,rfl,rfl,fun h=>h⟩
theorem zWN{cnt:Int}{i:Nat}{n:ND}{b:List UInt8}(a4:NdI cnt i n b){d:List UInt8}(hrt:n.role≠0→1≤n.term)(hr:(zJX n d).2.2=0):TkI cnt n i (zJX n d)∧zJX n d=(yG n d,zAx (yG n d) n.nodes.toNat,0)∧n.role=2∧(n.log.length:Int)≠60∧n.up=true∧leB d.length 400=true:=by
 unfold zJX at hr ⊢
 split at hr
 ·simp at hr
 ·rename_i c0
  rw[if_neg c0]
  cases c1:zB9 n with
  | false=>rw[c1] at hr;simp at hr
  | true=>
   rw[c1] at hr
   simp only[cond_true] at hr ⊢
   cases c2:inB (d.length:Int) 1 400 with
   | false=>rw[c2] at hr;simp at hr
   | true=>
    rw[c2] at hr
    simp only[cond_true] at hr ⊢
    have hd:=zk.1 c2
    unfold zHG at hr ⊢
    split at hr
    ·simp at hr
    ·rename_i c3
     rw[if_neg c3]
     split at hr
     ·simp at hr
     ·rename_i c4
      rw[if_neg c4]
      split at hr
      ·simp at hr
      ·rename_i c5
       rw[if_neg c5]
       have hro:n.role=2:=Decidable.byContradiction c4
       have hl4:leB d.length 400=true:=by simp[leB];omega
       have ht:=hrt (by omega)
       have hF:=zKI (d:=d) a4.F ht c5 hl4
       have hS:=zNI (d:=d) a4.F
       have nds:=a4.nds
       have n1:=a4.F.n1
       have hE:∀a∈(yG n d).log,isE a:=by
        intro a ha
        rcases List.mem_append.1 (show a∈n.log++_ from ha) with ha | ha
        ·exact a4.e a ha
        ·exact⟨_,_,List.mem_singleton.1 ha⟩
       refine⟨⟨hF,a4.id,nds,hE,Int.le_refl _,fun a ha=>?_,fun h=>h,hS.mono (l:=1000) (by decide)⟩,rfl,hro,c5,by simpa using c3,hl4⟩
       have:=zDO hF ht hE n.nodes.toNat (by show(n.nodes.toNat:Int)≤n.nodes;omega) a ha
       rw[←nds];exact this
theorem zI0{c:CL}(h:ClI c){i:Nat}(hi:i < c.ns.length){r:ND × List PV × Int}(hT:r.2.2=0→TkI c.ns.length (yH c.ns i) i r)(hR:RtI c):ClI (zCy c r).1∧RtI (zCy c r).1∧(zCy c r).1.ns.length=c.ns.length:=by
 unfold zCy
 split
 ·exact⟨h,hR,rfl⟩
 ·rename_i hr
  have hT:=hT (Decidable.byContradiction hr)
  exact⟨zJF h hi hT,zQw hR hi hT.id (hT.rt (hR i hi)),zNx⟩
theorem zHW{n:ND}(h:NdF n):NdF (zO2 n):=
 ⟨h.n1,h.n5,h.i0,h.i1,h.t0,h.t1,h.en,h.l6,h.r0,h.r2,.inl rfl,h.c0,h.c1,h.e0,h.e1,h.w5,h.w1,h.nx,h.ms,h.vo,h.nm,h.vt⟩
theorem zHZ{l:List PV}{i:Nat}{x:PV}(h:nth l i=x)(hi:i < l.length):l.set i x=l:=by
 rw[←h,zHX hi];exact List.set_getElem_self hi
theorem zN5{c:CL}(h:ClI c)(hR:RtI c)(a:CA)(ha:inB a.node 0 (c.ns.length - 1)=true):ClI (zIz c a).1∧RtI (zIz c a).1∧(zIz c a).1.ns.length=c.ns.length:=by
 have ha:=zk.1 ha
 obtain⟨i,hi⟩:∃i:Nat,a.node=i:=⟨a.node.toNat,by omega⟩
 have hil:i < c.ns.length:=by omega
 unfold zIz
 rw[hi,Int.toNat_natCast]
 obtain⟨a1,a2,a3,a4⟩:=h.at hil
 split
 ·split
  ·exact⟨h,hR,rfl⟩
  ·have hp:=h.put hil (x:=zO2 (yH c.ns i)) ⟨zHW a4.F,a4.id,a4.nds,a4.e,a4.l,a4.h⟩ h.wl h.wm h.dl h.dm
   rw[zHZ a2 (by rw[h.sl];exact hil)] at hp
   exact⟨hp,hR.put hil (x:=zO2 (yH c.ns i)) (hR i hil),by simp⟩
 ·split
  ·exact⟨h,hR,rfl⟩
  ·split
   ·exact⟨zQ7 h hil (zL4 h hil 0),zQ6 hR hil,zOK⟩
   ·split
    ·exact zI0 h hil (fun hr=>(zWQ a4 (hR i hil) hr).1) hR
    ·split
     ·exact⟨h,hR,rfl⟩
     ·exact zI0 h hil (fun hr=>(zWN a4 (hR i hil) hr).1) hR
theorem zM8{c:CL}(h:ClI c)(hR:RtI c)(a:CA):ClI (zAS c a).1∧RtI (zAS c a).1∧(zAS c a).1.ns.length=c.ns.length:=by
 unfold zAS
 split
 ·have:=zSu h a
  exact⟨this.1,this.2.1 hR,this.2.2⟩
 ·split
  ·split
   ·exact⟨h,hR,rfl⟩
   ·rename_i ha
    exact zN5 h hR a (by simpa using ha)
  ·exact⟨h,hR,rfl⟩
theorem zBL(nodes:Int):∀(k i:Nat),i < k→nth (zCA nodes k) i=(zCr i nodes 0 (-1) []).pv
 | 0,i,h=>by omega
 | k+1,i,h=>by
  rw[zCA]
  by_cases e:i < k
  ·rw[zEd (by rw[yL];exact e)];exact zBL nodes k i e
  ·have:i=(zCA nodes k).length:=by rw[yL];omega
   rw[this,zF2,yL]
theorem zR7{i cnt:Nat}(hi:i < cnt)(h5:cnt≤5):NdF (zCr i cnt 0 (-1) []):=by
 have h:=zWo (s:=ST.one) (i:=i) (cnt:=cnt) (by decide) hi h5 (by show(-1:Int) < cnt;omega)
 exact zHW h
def yR(nodes:Nat):CL:=⟨zCA nodes nodes,List.replicate nodes st0,[],[]⟩
theorem zK4{nodes:Nat}(h1:1≤nodes)(h5:nodes≤5):ClI (yR nodes)∧RtI (yR nodes):=by
 have hl:(yR nodes).ns.length=nodes:=yL nodes nodes
 refine⟨⟨by omega,by omega,by rw[hl];simp[yR],fun i hi=>?_,by simp[yR],by simp[yR],by simp[yR],by simp[yR]⟩,fun i hi hr=>?_⟩
 ·have hi':i < nodes:=by omega
  refine⟨zCr i nodes 0 (-1) [],[],zBL _ _ _ hi',?_,?_⟩
  ·show nth (List.replicate nodes st0) i=_
   rw[zJL hi'];rfl
  ·rw[hl]
   exact⟨zR7 hi' h5,rfl,rfl,by simp[zCr],by simp,zGF⟩
 ·have:yH (yR nodes).ns i=zCr i nodes 0 (-1) []:=by
   rw[yH,show nth (yR nodes).ns i=_ from zBL _ _ _ (by omega)];rfl
  rw[this] at hr
  exact absurd rfl hr
end
section
variable [zS]
def yM:CL→List PV→CL × List PV
 | c,[]=>(c,[])
 | c,a :: acts=>((yM (zAS c (zDb a.A)).1 acts).1,.int .i64 (zAS c (zDb a.A)).2 :: (yM (zAS c (zDb a.A)).1 acts).2)
theorem zCu:∀{acts bs:List PV} {c:CL},yM c (acts++bs)=((yM (yM c acts).1 bs).1,(yM c acts).2++(yM (yM c acts).1 bs).2)
 | [],bs,c=>by simp[yM]
 | a :: acts,bs,c=>by rw[List.cons_append,yM,zCu];rfl
theorem zEa{acts:List PV}{k:Nat}{c:CL}(h:k < acts.length):yM c (acts.take (k+1))=((zAS (yM c (acts.take k)).1 (zDb (nth acts k).A)).1,(yM c (acts.take k)).2++[.int .i64 (zAS (yM c (acts.take k)).1 (zDb (nth acts k).A)).2]):=by
 rw[zd h,zCu];rfl
theorem zDN:∀{acts:List PV} {c:CL},(yM c acts).2.length=acts.length
 | [],_=>rfl
 | a :: acts,c=>by rw[yM,List.length_cons,zDN,List.length_cons]
theorem zKj:∀{acts:List PV} {c:CL},ClI c→RtI c→ClI (yM c acts).1∧RtI (yM c acts).1∧(yM c acts).1.ns.length=c.ns.length
 | [],c,h,hR=>⟨h,hR,rfl⟩
 | a :: acts,c,h,hR=>by
  obtain⟨h1,h2,h3⟩:=zM8 h hR (zDb a.A)
  obtain⟨q1,q2,q3⟩:=zKj (acts:=acts) h1 h2
  exact⟨q1,q2,q3.trans h3⟩
end
section
variable [zS]
def szF(f:PV→Int→Int):List PV→Int→Int
 | [],l=>l
 | e :: es,l=>if f e l < 0 then -1 else szF f es (f e l)
def zEV(f:PV→Int→Int)(es:List PV)(l:Int):Int:=if l - es.length < 0 then -1 else szF f es (l - es.length)
theorem zLu{f:PV→Int→Int}(hf:∀e l,0≤l→-1≤f e l∧f e l≤l):∀{es:List PV} {l:Int},0≤l→-1≤szF f es l∧szF f es l≤l∧(0≤szF f es l→∀e∈es,∃x,0≤x∧x≤l∧0≤f e x)
 | [],l,h=>⟨by simp only[szF];omega,by simp only[szF];omega,fun _ e he=>by simp at he⟩
 | e :: es,l,h=>by
  have h1:=hf e l h
  simp only[szF]
  split
  ·exact⟨by omega,by omega,fun h=>by omega⟩
  ·rename_i h2
   have h3:=zLu hf (es:=es) (l:=f e l) (by omega)
   refine⟨h3.1,by omega,fun h4 x hx=>?_⟩
   rcases List.mem_cons.1 hx with rfl | hx
   ·exact⟨l,h,Int.le_refl _,by omega⟩
   ·obtain⟨y,y1,y2,y3⟩:=h3.2.2 h4 x hx
    exact⟨y,y1,by omega,y3⟩
theorem zHu{f:PV→Int→Int}(hf:∀e l,0≤l→-1≤f e l∧f e l≤l){es:List PV}{l:Int}(h:0≤l):-1≤zEV f es l∧zEV f es l≤l∧(0≤zEV f es l→(es.length:Int)≤l∧∀e∈es,∃x,0≤x∧x≤l∧0≤f e x):=by
 unfold zEV
 split
 ·omega
 ·have h3:=zLu hf (es:=es) (l:=l - es.length) (by omega)
  refine⟨h3.1,by omega,fun h4=>⟨by omega,fun e he=>?_⟩⟩
  obtain⟨y,y1,y2,y3⟩:=h3.2.2 h4 e he
  exact⟨y,y1,by omega,y3⟩
def zXt(e:PV):Prop:=(nth e.A 6).L.length≤1048576∧(nth e.A 10).L.length≤1048576∧(nth e.A 11).L.length≤1048576∧(nth e.A 12).L.length≤1048576
def zFe(v:List PV):Prop:=((nth v 0).L.length≤1048576∧∀e∈(nth v 0).L,zXt e)∧(nth v 1).L.length≤1048576∧((nth v 2).L.length≤1048576∧∀e∈(nth v 2).L,(nth e.A 8).L.length≤1048576)∧(nth v 3).L.length≤1048576
end
section
variable [zS]
def yv(d:PV→Int)(k:Int):List PV→Int
 | []=>k
 | e :: es=>yv d (k+d e) es
def yT(d:PV→Int)(m:Int→PV→PV)(k:Int):List PV→List PV
 | []=>[]
 | e :: es=>m k e :: yT d m (k+d e) es
def zAf(d:PV→Int)(f:Int→PV→Bool)(k:Int):List PV→Int
 | []=>k
 | e :: es=>if f k e then zAf d f (k+d e) es else -1
theorem zA8{d:PV→Int}(x:PV):∀(es:List PV) (k:Int),yv d k (es++[x])=yv d k es+d x
 | [],k=>rfl
 | e :: es,k=>by simp only[List.cons_append,yv];exact zA8 x es _
theorem zDH{d:PV→Int}{m:Int→PV→PV}(x:PV):∀(es:List PV) (k:Int),yT d m k (es++[x])=yT d m k es++[m (yv d k es) x]
 | [],k=>rfl
 | e :: es,k=>by simp only[List.cons_append,yT,yv];rw[zDH x es]
theorem yz{d:PV→Int}{m:Int→PV→PV}:∀(es:List PV) (k:Int),(yT d m k es).length=es.length
 | [],k=>rfl
 | e :: es,k=>by simp only[yT,List.length_cons,yz es]
theorem zAd{d:PV→Int}(hd:∀e,0≤d e):∀(es:List PV) (k:Int),k≤yv d k es
 | [],k=>Int.le_refl _
 | e :: es,k=>by have:=zAd hd es (k+d e);have:=hd e;simp only[yv];omega
theorem zC3{d:PV→Int}(hd:∀e,0≤d e)(es:List PV)(k:Int){i:Nat}(h:i < es.length):yv d k (es.take i)+d (nth es i)≤yv d k es:=by
 induction es generalizing k i with
 | nil=>simp at h
 | cons e es ih=>
  cases i with
  | zero=>rw[zE];exact zAd hd es (k+d e)
  | succ i=>rw[zF];exact ih (k+d e) (by simpa using h)
theorem zDi{d:PV→Int}{m:Int→PV→PV}{f:Int→PV→Bool}(h1:∀k e,d (m k e)=d e)(h2:∀k e,f k (m k e)=true):∀(es:List PV) (k:Int),zAf d f k (yT d m k es)=yv d k es
 | [],k=>rfl
 | e :: es,k=>by rw[yT,zAf,if_pos (h2 k e),h1,zDi h1 h2 es,yv]
theorem zDe{d:PV→Int}{m:Int→PV→PV}(h1:∀k e,d (m k e)=d e):∀(es:List PV) (k k':Int),yv d k' (yT d m k es)=yv d k' es
 | [],k,k'=>rfl
 | e :: es,k,k'=>by simp only[yT,yv,h1];exact zDe h1 es _ _
def ndN(e:PV):Int:=9+2*(nth e.A 6).L.length+(nth e.A 10).L.length+(nth e.A 11).L.length+(nth e.A 12).L.length
theorem zC7(e:PV):0≤ndN e:=by unfold ndN;omega
def zVh(k:Int)(l v x m:Nat):PV:=.agg [.int .i64 k,.int .i64 (k+1),.int .i64 (k+2),.int .i64 (k+3),.int .i64 (k+4),.bool (zOf (k+5)),.list (zC8 (k+6) l),.int .i64 (k+6+2*l),.int .i64 (k+6+2*l+1),.int .i64 (k+6+2*l+2),
 .list (zCs (k+6+2*l+3) v),.list (zCs (k+6+2*l+3+v) x),.list (zCs (k+6+2*l+3+v+x) m)]
def mkN(k:Int)(e:PV):PV:=zVh k (nth e.A 6).L.length (nth e.A 10).L.length (nth e.A 11).L.length (nth e.A 12).L.length
theorem zOe(k:Int)(e:PV):ndN (mkN k e)=ndN e:=by simp[ndN,mkN,zVh,zE,zF,zBE,zAA,zBM,zCG]
def zAY:zJ:=⟨[(.mt,.list (.agg [.int .i64,.int .i64,.int .i64,.int .i64,.int .i64,.bool,.list (.agg [.int .i64,.str]),.int .i64,.int .i64,.int .i64,.list (.int .i64),.list (.int .i64),.list (.int .i64)])),(.rd,.int .i64)],[.int .i64],true,fun ps=>0≤(nth ps 1).I∧yv ndN (nth ps 1).I (nth ps 0).L≤1073741823,fun ps=>[.int .i64 (yv ndN (nth ps 1).I (nth ps 0).L)],fun ps=>[.list (yT ndN mkN (nth ps 1).I (nth ps 0).L)]⟩
set_option maxHeartbeats 4000000 in
theorem zII:zh Tryz.prog 58 zAY:=by
 refine zP [0,1,4,5] [.tmp 4] (zA (cs:=[]) zHi (zA (cs:=[]) zDu (zD (zB [])))) mixed Tryz.func58 rfl (by decide) rfl (by decide) rfl ?_
 intro ps hT hpre W hW
 simp only[zAY,TyA,Ty,Tys] at hT hpre
 obtain⟨_,_,rfl,⟨es,rfl,hes,tes⟩,_,_,rfl,⟨k,rfl,hk⟩,rfl⟩:=hT
 simp only[zE,zF,yp,zAA] at hpre
 refine hW.vc [] _ _ ?_
 simp[-List.getD_eq_getElem?_getD,zAY,zs,zAB]
 refine hW.loopS _ _ _ [.ar 0 (.agg [.int .i64,.int .i64,.int .i64,.int .i64,.int .i64,.bool,.list (.agg [.int .i64,.str]),.int .i64,.int .i64,.int .i64,.list (.int .i64),.list (.int .i64),.list (.int .i64)]),.sl 1 .dp (.int .i64),.sl 5 .dp (.int .i64)] (fun ys=>∃i:Nat,ys=[.list (yT ndN mkN k (es.take i)++es.drop i),.int .i64 (yv ndN k (es.take i)),.int .i64 i]∧i≤es.length) (fun ys=>es.length - (nth ys 2).I.toNat) ?_ ?_
 ·simp[-List.getD_eq_getElem?_getD,zAY,zs,zAB]
  exact⟨0,⟨by simp[yT],by simp[yv],rfl⟩,by omega⟩
 ·rintro ys ⟨i,rfl,h2⟩
  by_cases h3:i < es.length
  ·have h4:i < (yT ndN mkN k (es.take i)++es.drop i).length:=by rw[List.length_append,yz,List.length_take,List.length_drop];omega
   have h5:(yT ndN mkN k (es.take i)++es.drop i).length=es.length:=by rw[List.length_append,yz,List.length_take,List.length_drop];omega
   obtain⟨L,hL⟩:∃L,L=yT ndN mkN k (es.take i)++es.drop i:=⟨_,rfl⟩
   obtain⟨K,hK⟩:∃K,K=yv ndN k (es.take i):=⟨_,rfl⟩
   rw[←hL] at h4 h5
   rw[←hL,←hK]
   have h6:∀x,nth (L.set i x) i=x:=fun x=>zEc h4
   refine hW.vc [] _ _ ?_
   simp[-List.getD_eq_getElem?_getD,zAY,zs,zAB,h6]
   have g1:=zC3 zC7 es k h3
   have g2:=zAd zC7 (es.take i) k
   rw[←hK] at g1 g2
   have g3:nth L i=nth es i:=by rw[hL,zG h3];simp[nth,List.getElem?_append_right,yz,List.length_take,Nat.min_eq_left h2]
   have g4:ndN (nth es i)=9+2*(nth (nth es i).A 6).L.length+(nth (nth es i).A 10).L.length+(nth (nth es i).A 11).L.length+(nth (nth es i).A 12).L.length:=rfl
   have g5:mkN K (nth es i)=zVh K (nth (nth es i).A 6).L.length (nth (nth es i).A 10).L.length (nth (nth es i).A 11).L.length (nth (nth es i).A 12).L.length:=rfl
   rw[g3]
   obtain⟨l,hl⟩:∃l,l=(nth (nth es i).A 6).L.length:=⟨_,rfl⟩
   obtain⟨v,hv⟩:∃v,v=(nth (nth es i).A 10).L.length:=⟨_,rfl⟩
   obtain⟨x,hx⟩:∃x,x=(nth (nth es i).A 11).L.length:=⟨_,rfl⟩
   obtain⟨m,hm⟩:∃m,m=(nth (nth es i).A 12).L.length:=⟨_,rfl⟩
   rw[←hl,←hv,←hx,←hm] at g4 g5 ⊢
   have e1:IntKind.i64.wrap (K+1)=K+1:=zC (by omega)
   have e2:IntKind.i64.wrap (K+1+1)=K+2:=by rw[zC (by omega)];omega
   have e3:IntKind.i64.wrap (K+2+1)=K+3:=by rw[zC (by omega)];omega
   have e4:IntKind.i64.wrap (K+3+1)=K+4:=by rw[zC (by omega)];omega
   have e5:IntKind.i64.wrap (K+4+1)=K+5:=by rw[zC (by omega)];omega
   have e6:IntKind.i64.wrap (K+5+1)=K+6:=by rw[zC (by omega)];omega
   have e7:IntKind.i64.wrap (K+6+2*(l:Int)+1)=K+6+2*l+1:=zC (by omega)
   have e8:IntKind.i64.wrap (K+6+2*(l:Int)+1+1)=K+6+2*l+2:=by rw[zC (by omega)];omega
   have e9:IntKind.i64.wrap (K+6+2*(l:Int)+2+1)=K+6+2*l+3:=by rw[zC (by omega)];omega
   have e10:IntKind.i64.wrap ((i:Int)+1)=(i:Int)+1:=zC (by rw[LIM] at hes;omega)
   simp only[e1,e2,e3,e4,e5,e6,e7,e8,e9,e10]
   refine fun _=>⟨fun _=>⟨h4,fun _=>⟨⟨by omega,by omega⟩,h4,fun _=>⟨⟨by omega,by omega⟩,h4,fun _=>⟨⟨by omega,by omega⟩,h4,fun _=>⟨⟨by omega,by omega⟩,⟨i+1,⟨?_,?_,by omega⟩,by omega⟩,by omega⟩⟩⟩⟩⟩,fun h=>by omega⟩
   ·rw[zd h3,zDH,hL]
    exact zBY (by rw[yz,List.length_take];omega) h3 (by rw[←hK,g5];rfl)
   ·rw[zd h3,zA8,←hK,g4];omega
  ·have:i=es.length:=by omega
   subst this
   have h4:yT ndN mkN k (es.take es.length)++es.drop es.length=yT ndN mkN k es:=by simp
   have h5:(yT ndN mkN k es).length=es.length:=yz es k
   rw[h4,List.take_length]
   obtain⟨L,hL⟩:∃L,L=yT ndN mkN k es:=⟨_,rfl⟩
   rw[←hL] at h5 ⊢
   have h6:∀x,nth (L.set es.length x) es.length=PV.d:=fun x=>by simp[nth,h5]
   refine hW.vc [] _ _ ?_
   simp[-List.getD_eq_getElem?_getD,zAY,zs,zAB,h6,h5]
   exact fun _=>hL
def yK(k:Int)(e:PV):Bool:=(nth e.A 0).I == k&&(nth e.A 1).I == k+1&&(nth e.A 2).I == k+2&&(nth e.A 3).I == k+3&&(nth e.A 4).I == k+4&&(nth e.A 5).B == zOf (k+5)&&zn zBN 2 (k+6) (nth e.A 6).L == k+6+2*(nth e.A 6).L.length &&
 (nth e.A 7).I == k+6+2*(nth e.A 6).L.length&&(nth e.A 8).I == k+6+2*(nth e.A 6).L.length+1&&(nth e.A 9).I == k+6+2*(nth e.A 6).L.length+2&&zn zAj 1 (k+6+2*(nth e.A 6).L.length+3) (nth e.A 10).L == k+6+2*(nth e.A 6).L.length+3+(nth e.A 10).L.length &&
 zn zAj 1 (k+6+2*(nth e.A 6).L.length+3+(nth e.A 10).L.length) (nth e.A 11).L == k+6+2*(nth e.A 6).L.length+3+(nth e.A 10).L.length+(nth e.A 11).L.length &&
 zn zAj 1 (k+6+2*(nth e.A 6).L.length+3+(nth e.A 10).L.length+(nth e.A 11).L.length) (nth e.A 12).L == k+6+2*(nth e.A 6).L.length+3+(nth e.A 10).L.length+(nth e.A 11).L.length+(nth e.A 12).L.length
theorem zLK(k:Int)(e:PV):yK k (mkN k e)=true:=by
 simp[yK,mkN,zVh,zE,zF,zBE,yp,zAA,zNq,zFr,zHk,zBM,zCG]
theorem zIR(es:List PV)(k:Int):zAf ndN yK k (yT ndN mkN k es)=yv ndN k es:=zDi zOe zLK es k
def zAr:zJ:=⟨[(.rd,.list (.agg [.int .i64,.int .i64,.int .i64,.int .i64,.int .i64,.bool,.list (.agg [.int .i64,.str]),.int .i64,.int .i64,.int .i64,.list (.int .i64),.list (.int .i64),.list (.int .i64)])),(.rd,.int .i64)],[.int .i64],true,fun ps=>0≤(nth ps 1).I∧yv ndN (nth ps 1).I (nth ps 0).L≤1073741823,fun ps=>[.int .i64 (zAf ndN yK (nth ps 1).I (nth ps 0).L)],fun _=>[]⟩
set_option maxHeartbeats 4000000 in
theorem zIL:zh Tryz.prog 62 zAr:=by
 refine zP [0,1,4,5] [.tmp 4] (zA (cs:=[]) zHj (zA (cs:=[]) zDv (zD (zB [])))) mixed Tryz.func62 rfl (by decide) rfl (by decide) rfl ?_
 intro ps hT hpre W hW
 simp only[zAr,TyA,Ty,Tys] at hT hpre
 obtain⟨_,_,rfl,⟨es,rfl,hes,tes⟩,_,_,rfl,⟨k,rfl,hk⟩,rfl⟩:=hT
 simp only[zE,zF,yp,zAA] at hpre
 refine hW.vc [] _ _ ?_
 simp[-List.getD_eq_getElem?_getD,zAr,yB,zAV]
 refine hW.loopS _ _ _ [.sl 1 .dp (.int .i64),.sl 5 .dp (.int .i64)] (fun ys=>∃i:Nat,ys=[.int .i64 (yv ndN k (es.take i)),.int .i64 i]∧i≤es.length∧zAf ndN yK k es=zAf ndN yK (yv ndN k (es.take i)) (es.drop i)) (fun ys=>es.length - (nth ys 1).I.toNat) ?_ ?_
 ·simp[-List.getD_eq_getElem?_getD,zAr,yB,zAV]
  exact⟨0,⟨by simp[yv],rfl⟩,by omega,by simp[yv]⟩
 ·rintro ys ⟨i,rfl,h2,h3⟩
  refine hW.vc [] _ _ ?_
  simp[-List.getD_eq_getElem?_getD,zAr,yB,zAV]
  by_cases h4:i < es.length
  ·have g1:=zC3 zC7 es k h4
   have g2:=zAd zC7 (es.take i) k
   obtain⟨K,hK⟩:∃K,K=yv ndN k (es.take i):=⟨_,rfl⟩
   rw[←hK] at g1 g2 h3 ⊢
   have g4:ndN (nth es i)=9+2*(nth (nth es i).A 6).L.length+(nth (nth es i).A 10).L.length+(nth (nth es i).A 11).L.length+(nth (nth es i).A 12).L.length:=rfl
   rw[zG h4,zAf] at h3
   have no:yK K (nth es i)=false→zAf ndN yK k es=-1:=fun q=>by rw[h3,if_neg (by rw[q];simp)]
   obtain⟨l,hl⟩:∃l,l=(nth (nth es i).A 6).L.length:=⟨_,rfl⟩
   have a6:=zDh (f:=zBN) (d:=2) (by omega) (es:=(nth (nth es i).A 6).L) (k:=K+6) (by omega)
   have a10:=zDh (f:=zAj) (d:=1) (by omega) (es:=(nth (nth es i).A 10).L) (k:=K+6+2*l+3) (by omega)
   have a11:=zDh (f:=zAj) (d:=1) (by omega) (es:=(nth (nth es i).A 11).L) (k:=K+6+2*l+3+(nth (nth es i).A 10).L.length) (by omega)
   have a12:=zDh (f:=zAj) (d:=1) (by omega) (es:=(nth (nth es i).A 12).L) (k:=K+6+2*l+3+(nth (nth es i).A 10).L.length+(nth (nth es i).A 11).L.length) (by omega)
   have e1:IntKind.i64.wrap (K+1)=K+1:=zC (by omega)
   have e2:IntKind.i64.wrap (K+1+1)=K+2:=by rw[zC (by omega)];omega
   have e3:IntKind.i64.wrap (K+2+1)=K+3:=by rw[zC (by omega)];omega
   have e4:IntKind.i64.wrap (K+3+1)=K+4:=by rw[zC (by omega)];omega
   have e5:IntKind.i64.wrap (K+4+1)=K+5:=by rw[zC (by omega)];omega
   have e6:IntKind.i64.wrap (K+5+1)=K+6:=by rw[zC (by omega)];omega
   have e7:IntKind.i64.wrap (K+6+2*(l:Int)+1)=K+6+2*l+1:=zC (by omega)
   have e8:IntKind.i64.wrap (K+6+2*(l:Int)+1+1)=K+6+2*l+2:=by rw[zC (by omega)];omega
   have e9:IntKind.i64.wrap (K+6+2*(l:Int)+2+1)=K+6+2*l+3:=by rw[zC (by omega)];omega
   have e10:IntKind.i64.wrap ((i:Int)+1)=(i:Int)+1:=zC (by rw[LIM] at hes;omega)
   have c6:0≤K+6∧K+6+2*((nth (nth es i).A 6).L.length:Int)≤1073741823:=⟨by omega,by omega⟩
   have P6:0≤K+6+2*((nth (nth es i).A 6).L.length:Int):=by omega
   have c10:0≤K+6+2*l+3∧K+6+2*l+3+((nth (nth es i).A 10).L.length:Int)≤1073741823:=⟨by omega,by omega⟩
   have P10:0≤K+6+2*l+3+((nth (nth es i).A 10).L.length:Int):=by omega
   have c11:0≤K+6+2*l+3+(nth (nth es i).A 10).L.length∧K+6+2*l+3+(nth (nth es i).A 10).L.length+((nth (nth es i).A 11).L.length:Int)≤1073741823:=⟨by omega,by omega⟩
   have P11:0≤K+6+2*l+3+(nth (nth es i).A 10).L.length+((nth (nth es i).A 11).L.length:Int):=by omega
   have c12:0≤K+6+2*l+3+(nth (nth es i).A 10).L.length+(nth (nth es i).A 11).L.length∧K+6+2*l+3+(nth (nth es i).A 10).L.length+(nth (nth es i).A 11).L.length+((nth (nth es i).A 12).L.length:Int)≤1073741823:=⟨by omega,by omega⟩
   have P12:0≤K+6+2*l+3+(nth (nth es i).A 10).L.length+(nth (nth es i).A 11).L.length+((nth (nth es i).A 12).L.length:Int):=by omega
   have cF:K+6+2*l+3+(nth (nth es i).A 10).L.length+(nth (nth es i).A 11).L.length+((nth (nth es i).A 12).L.length:Int)=K+ndN (nth es i):=by omega
   have cI:es.length - ((i:Int)+1).toNat < es.length - i:=by omega
   have hl':((nth (nth es i).A 6).L.length:Int)=l:=by rw[hl]
   simp only[e1,e2,e3,e4,e5,e6,e10]
   refine fun _=>⟨fun _=>?_,fun h=>absurd h (Nat.not_le.2 h4)⟩
   refine⟨h4,fun _=>⟨fun q=>(no (by simp[yK,q])).symm,fun q0=>?_⟩⟩
   refine⟨h4,fun _=>⟨fun q=>(no (by simp[yK,q])).symm,fun q1=>?_⟩⟩
   refine⟨h4,fun _=>⟨fun q=>(no (by simp[yK,q])).symm,fun q2=>?_⟩⟩
   refine⟨h4,fun _=>⟨fun q=>(no (by simp[yK,q])).symm,fun q3=>?_⟩⟩
   refine⟨h4,fun _=>⟨fun q=>(no (by simp[yK,q])).symm,fun q4=>?_⟩⟩
   refine⟨h4,fun _=>⟨fun q=>(no (by simp[yK,zOf,q])).symm,fun q5=>?_⟩⟩
   refine⟨h4,fun _=>⟨c6,fun q=>(no ?_).symm,fun q6=>?_⟩⟩
   ·have:¬zn zBN 2 (K+6) (nth (nth es i).A 6).L=K+6+2*(nth (nth es i).A 6).L.length:=fun e=>absurd q (by rw[e];exact Int.not_lt.2 P6)
    simp[yK,this]
   have b6:zn zBN 2 (K+6) (nth (nth es i).A 6).L=K+6+2*l:=by
    have:=a6.resolve_left (fun e=>absurd q6 (by rw[e];decide))
    rwa[hl'] at this
   rw[b6]
   simp only[e7,e8,e9]
   refine⟨h4,fun _=>⟨fun q=>(no (by simp[yK,←hl,q])).symm,fun q7=>?_⟩⟩
   refine⟨h4,fun _=>⟨fun q=>(no (by simp[yK,←hl,q])).symm,fun q8=>?_⟩⟩
   refine⟨h4,fun _=>⟨fun q=>(no (by simp[yK,←hl,q])).symm,fun q9=>?_⟩⟩
   refine⟨h4,fun _=>⟨c10,fun q=>(no ?_).symm,fun q10=>?_⟩⟩
   ·have:¬zn zAj 1 (K+6+2*l+3) (nth (nth es i).A 10).L=K+6+2*l+3+(nth (nth es i).A 10).L.length:=fun e=>absurd q (by rw[e];exact Int.not_lt.2 P10)
    simp[yK,←hl,this]
   have b10:zn zAj 1 (K+6+2*l+3) (nth (nth es i).A 10).L=K+6+2*l+3+(nth (nth es i).A 10).L.length:=by
    have:=a10.resolve_left (fun e=>absurd q10 (by rw[e];decide))
    rwa[Int.one_mul] at this
   rw[b10]
   refine⟨h4,fun _=>⟨c11,fun q=>(no ?_).symm,fun q11=>?_⟩⟩
   ·have:¬zn zAj 1 (K+6+2*l+3+(nth (nth es i).A 10).L.length) (nth (nth es i).A 11).L=K+6+2*l+3+(nth (nth es i).A 10).L.length+(nth (nth es i).A 11).L.length:=fun e=>absurd q (by rw[e];exact Int.not_lt.2 P11)
    simp[yK,←hl,this]
   have b11:zn zAj 1 (K+6+2*l+3+(nth (nth es i).A 10).L.length) (nth (nth es i).A 11).L=K+6+2*l+3+(nth (nth es i).A 10).L.length+(nth (nth es i).A 11).L.length:=by
    have:=a11.resolve_left (fun e=>absurd q11 (by rw[e];decide))
    rwa[Int.one_mul] at this
   rw[b11]
   refine⟨h4,fun _=>⟨c12,fun q=>(no ?_).symm,fun q12=>?_⟩⟩
   ·have:¬zn zAj 1 (K+6+2*l+3+(nth (nth es i).A 10).L.length+(nth (nth es i).A 11).L.length) (nth (nth es i).A 12).L=K+6+2*l+3+(nth (nth es i).A 10).L.length+(nth (nth es i).A 11).L.length+(nth (nth es i).A 12).L.length:=fun e=>absurd q (by rw[e];exact Int.not_lt.2 P12)
    simp[yK,←hl,this]
   have b12:zn zAj 1 (K+6+2*l+3+(nth (nth es i).A 10).L.length+(nth (nth es i).A 11).L.length) (nth (nth es i).A 12).L=K+6+2*l+3+(nth (nth es i).A 10).L.length+(nth (nth es i).A 11).L.length+(nth (nth es i).A 12).L.length:=by
    have:=a12.resolve_left (fun e=>absurd q12 (by rw[e];decide))
    rwa[Int.one_mul] at this
   rw[b12]
   have a3:yK K (nth es i)=true:=by simp[yK,zOf,←hl,q0,q1,q2,q3,q4,q5,b6,q7,q8,q9,b10,b11,b12]
   rw[if_pos a3] at h3
   refine⟨⟨i+1,⟨?_,rfl⟩,h4,?_⟩,cI⟩
   ·rw[zd h4,zA8,←hK];exact cF
   ·rw[zd h4,zA8,←hK,h3]
  ·have:i=es.length:=by omega
   subst this
   refine fun _=>⟨fun h=>absurd h (Nat.lt_irrefl _),fun _=>?_⟩
   rw[h3,List.drop_length];rfl
end
section
variable [zS]
def stN(e:PV):Int:=2
theorem zC4(e:PV):0≤stN e:=by unfold stN;decide
def zGj(k:Int)(e:PV):PV:=.agg [.str (zES k),.int .i64 (k+1)]
def zAF:zJ:=⟨[(.mt,.list (.agg [.str,.int .i64])),(.rd,.int .i64)],[.int .i64],true,fun ps=>0≤(nth ps 1).I∧yv stN (nth ps 1).I (nth ps 0).L≤1073741823,fun ps=>[.int .i64 (yv stN (nth ps 1).I (nth ps 0).L)],fun ps=>[.list (yT stN zGj (nth ps 1).I (nth ps 0).L)]⟩
theorem zHI:zh Tryz.prog 59 zAF:=by
 refine zP [0,1,4,5] [.tmp 4] (zA (cs:=[]) zA4 (zD (zB []))) mixed Tryz.func59 rfl (by decide) rfl (by decide) rfl ?_
 intro ps hT hpre W hW
 simp only[zAF,TyA,Ty,Tys] at hT hpre
 obtain⟨_,_,rfl,⟨es,rfl,hes,tes⟩,_,_,rfl,⟨k,rfl,hk⟩,rfl⟩:=hT
 simp only[zE,zF,yp,zAA] at hpre
 refine hW.vc [] _ _ ?_
 simp[-List.getD_eq_getElem?_getD,zAF,zZ]
 refine hW.loopS _ _ _ [.ar 0 (.agg [.str,.int .i64]),.sl 1 .dp (.int .i64),.sl 5 .dp (.int .i64)] (fun ys=>∃i:Nat,ys=[.list (yT stN zGj k (es.take i)++es.drop i),.int .i64 (yv stN k (es.take i)),.int .i64 i]∧i≤es.length) (fun ys=>es.length - (nth ys 2).I.toNat) ?_ ?_
 ·simp[-List.getD_eq_getElem?_getD,zAF,zZ]
  exact⟨0,⟨by simp[yT],by simp[yv],rfl⟩,by omega⟩
 ·rintro ys ⟨i,rfl,h2⟩
  by_cases h3:i < es.length
  ·have h4:i < (yT stN zGj k (es.take i)++es.drop i).length:=by rw[List.length_append,yz,List.length_take,List.length_drop];omega
   have h5:(yT stN zGj k (es.take i)++es.drop i).length=es.length:=by rw[List.length_append,yz,List.length_take,List.length_drop];omega
   obtain⟨L,hL⟩:∃L,L=yT stN zGj k (es.take i)++es.drop i:=⟨_,rfl⟩
   obtain⟨K,hK⟩:∃K,K=yv stN k (es.take i):=⟨_,rfl⟩
   rw[←hL] at h4 h5
   rw[←hL,←hK]
   have h6:∀x,nth (L.set i x) i=x:=fun x=>zEc h4
   refine hW.vc [] _ _ ?_
   simp[-List.getD_eq_getElem?_getD,zAF,zZ,h6]
   have g1:=zC3 zC4 es k h3
   have g2:=zAd zC4 (es.take i) k
   rw[←hK] at g1 g2
   have g4:stN (nth es i)=2:=rfl
   have e1:IntKind.i64.wrap (K+1)=K+1:=zC (by omega)
   have e2:IntKind.i64.wrap (K+1+1)=K+2:=by rw[zC (by omega)];omega
   have e10:IntKind.i64.wrap ((i:Int)+1)=(i:Int)+1:=zC (by rw[LIM] at hes;omega)
   simp only[e1,e2,e10]
   refine fun _=>⟨fun _=>⟨by omega,h4,⟨i+1,⟨?_,?_,rfl⟩,h3⟩,by omega⟩,fun h=>by omega⟩
   ·rw[zd h3,zDH,hL]
    exact zBY (by rw[yz,List.length_take];omega) h3 (by rw[←hK];rfl)
   ·rw[zd h3,zA8,←hK,g4]
  ·have:i=es.length:=by omega
   subst this
   have h4:yT stN zGj k (es.take es.length)++es.drop es.length=yT stN zGj k es:=by simp
   have h5:(yT stN zGj k es).length=es.length:=yz es k
   rw[h4,List.take_length]
   obtain⟨L,hL⟩:∃L,L=yT stN zGj k es:=⟨_,rfl⟩
   rw[←hL] at h5 ⊢
   have h6:∀x,nth (L.set es.length x) es.length=PV.d:=fun x=>by simp[nth,h5]
   refine hW.vc [] _ _ ?_
   simp[-List.getD_eq_getElem?_getD,zAF,zZ,h6,h5]
   exact fun _=>hL
def yu(k:Int)(e:PV):Bool:=(nth e.A 0).S == zES k&&(nth e.A 1).I == k+1
theorem zJt(k:Int)(e:PV):yu k (zGj k e)=true:=by simp[yu,zGj,zE,zF,zBE,yp,zEW]
theorem zHM(es:List PV)(k:Int):zAf stN yu k (yT stN zGj k es)=yv stN k es:=zDi (m:=zGj) (fun _ _=>rfl) zJt es k
def zAc:zJ:=⟨[(.rd,.list (.agg [.str,.int .i64])),(.rd,.int .i64)],[.int .i64],true,fun ps=>0≤(nth ps 1).I∧yv stN (nth ps 1).I (nth ps 0).L≤1073741823,fun ps=>[.int .i64 (zAf stN yu (nth ps 1).I (nth ps 0).L)],fun _=>[]⟩
theorem zHK:zh Tryz.prog 63 zAc:=by
 refine zP [0,1,4,5] [.tmp 4] (zA (cs:=[]) zA4 (zD (zB []))) mixed Tryz.func63 rfl (by decide) rfl (by decide) rfl ?_
 intro ps hT hpre W hW
 simp only[zAc,TyA,Ty,Tys] at hT hpre
 obtain⟨_,_,rfl,⟨es,rfl,hes,tes⟩,_,_,rfl,⟨k,rfl,hk⟩,rfl⟩:=hT
 simp only[zE,zF,yp,zAA] at hpre
 refine hW.vc [(4,[],tkN [0,1,2,3,4,5] (alS 6 (tkN [7] .done)))] _ _ ?_
 simp[-List.getD_eq_getElem?_getD,zAc,zZ]
 refine hW.loopS _ _ _ [.sl 1 .dp (.int .i64),.sl 5 .dp (.int .i64)] (fun ys=>∃i:Nat,ys=[.int .i64 (yv stN k (es.take i)),.int .i64 i]∧i≤es.length∧zAf stN yu k es=zAf stN yu (yv stN k (es.take i)) (es.drop i)) (fun ys=>es.length - (nth ys 1).I.toNat) ?_ ?_
 ·simp[-List.getD_eq_getElem?_getD,zAc,zZ]
  exact⟨0,⟨by simp[yv],rfl⟩,by omega,by simp[yv]⟩
 ·rintro ys ⟨i,rfl,h2,h3⟩
  refine hW.vc [(4,[],tkN [0,1,2,3,4,5] (alS 6 (tkN [7] .done)))] _ _ ?_
  simp[-List.getD_eq_getElem?_getD,zAc,zZ]
  by_cases h4:i < es.length
  ·have g1:=zC3 zC4 es k h4
   have g2:=zAd zC4 (es.take i) k
   obtain⟨K,hK⟩:∃K,K=yv stN k (es.take i):=⟨_,rfl⟩
   rw[←hK] at g1 g2 h3 ⊢
   have g4:stN (nth es i)=2:=rfl
   rw[zG h4,zAf] at h3
   have no:yu K (nth es i)=false→zAf stN yu k es=-1:=fun q=>by rw[h3,if_neg (by rw[q];simp)]
   have e1:IntKind.i64.wrap (K+1)=K+1:=zC (by omega)
   have e2:IntKind.i64.wrap (K+1+1)=K+2:=by rw[zC (by omega)];omega
   have e10:IntKind.i64.wrap ((i:Int)+1)=(i:Int)+1:=zC (by rw[LIM] at hes;omega)
   simp only[e1,e2,e10]
   have cI:es.length - ((i:Int)+1).toNat < es.length - i:=by omega
   refine fun _=>⟨fun _=>⟨by decide +kernel,h4,fun _=>⟨by omega,fun q=>(no (by simp[yu,q])).symm,fun q0=>⟨h4,fun _=>⟨fun q=>(no (by simp[yu,q])).symm,fun q1=>⟨⟨i+1,⟨?_,rfl⟩,h4,?_⟩,cI⟩⟩⟩⟩⟩,fun h=>by omega⟩
   ·rw[zd h4,zA8,←hK,g4]
   ·have a3:yu K (nth es i)=true:=by simp[yu,q0,q1]
    rw[if_pos a3] at h3
    rw[zd h4,zA8,←hK,h3]
  ·have:i=es.length:=by omega
   subst this
   refine fun _=>⟨fun h=>absurd h (Nat.lt_irrefl _),fun _=>?_⟩
   rw[h3,List.drop_length];rfl
end
section
variable [zS]
def cN1(k:Int)(v:List PV):Int:=yv ndN k (nth v 0).L
def cN2(k:Int)(v:List PV):Int:=yv stN (cN1 k v) (nth v 1).L
def cN3(k:Int)(v:List PV):Int:=zAM (cN2 k v) (nth v 2).L
def cN4(k:Int)(v:List PV):Int:=cN3 k v+(nth v 3).L.length
theorem zQl(k:Int)(v:List PV):k≤cN4 k v:=by
 have a1:=zAd zC7 (nth v 0).L k
 have a2:=zAd zC4 (nth v 1).L (cN1 k v)
 have a3:=zBU (nth v 2).L (cN2 k v)
 unfold cN4 cN3
 unfold cN2 at *
 unfold cN1 at *
 omega
def zBB:zJ:=⟨[(.mt,.agg [.list (.agg [.int .i64,.int .i64,.int .i64,.int .i64,.int .i64,.bool,.list (.agg [.int .i64,.str]),.int .i64,.int .i64,.int .i64,.list (.int .i64),.list (.int .i64),.list (.int .i64)]),.list (.agg [.str,.int .i64]),.list (.agg [.int .i64,.int .i64,.int .i64,.int .i64,.int .i64,.int .i64,.int .i64,.bool,.list (.agg [.int .i64,.str])]),.list .str]),(.rd,.int .i64)],[.int .i64],true,fun ps=>0≤(nth ps 1).I∧cN4 (nth ps 1).I (nth ps 0).A≤1073741823,fun ps=>[.int .i64 (cN4 (nth ps 1).I (nth ps 0).A)],
 fun ps=>[.agg [.list (yT ndN mkN (nth ps 1).I (nth (nth ps 0).A 0).L),.list (yT stN zGj (cN1 (nth ps 1).I (nth ps 0).A) (nth (nth ps 0).A 1).L),.list (yw (cN2 (nth ps 1).I (nth ps 0).A) (nth (nth ps 0).A 2).L),.list (zCa (cN3 (nth ps 1).I (nth ps 0).A) (nth (nth ps 0).A 3).L.length)]]⟩
theorem zF7:zh Tryz.prog 19 zBB:=by
 refine zP [0,1,2,4] [.tmp 4] (zA (cs:=[]) zF6 (zA (cs:=[]) zFJ (zA (cs:=[]) zHI (zA (cs:=[]) zII (zD (zB [])))))) mixed Tryz.func19 rfl (by decide) rfl (by decide) rfl ?_
 intro ps hT hpre W hW
 simp only[zBB,TyA,Ty,Tys] at hT hpre
 obtain⟨_,_,rfl,⟨_,rfl,_,_,rfl,⟨ns,rfl,hns,tns⟩,_,_,rfl,⟨ss,rfl,hss,tss⟩,_,_,rfl,⟨ws,rfl,hws,tws⟩,_,_,rfl,⟨ds,rfl,hds,tds⟩,rfl⟩,_,_,rfl,⟨k,rfl,hk⟩,rfl⟩:=hT
 simp only[zE,zF,yp,zAA,zBE,cN4,cN3,cN2,cN1] at hpre
 have a1:=zAd zC7 ns k
 have a2:=zAd zC4 ss (yv ndN k ns)
 have a3:=zBU ws (yv stN (yv ndN k ns) ss)
 refine hW.vc [] _ _ ?_
 simp[-List.getD_eq_getElem?_getD,zBB,zAY,zAF,yW,zAK,cN4,cN3,cN2,cN1]
 exact⟨⟨by omega,by omega⟩,⟨by omega,by omega⟩,⟨by omega,by omega⟩,by omega,by omega⟩
def zGG(k:Int)(ns ss ws ds:List PV):Int:=if zAf ndN yK k ns < 0 then -1 else if zAf stN yu (zAf ndN yK k ns) ss < 0 then -1 else if zBV (zAf stN yu (zAf ndN yK k ns) ss) ws < 0 then -1 else zn zDS 1 (zBV (zAf stN yu (zAf ndN yK k ns) ss) ws) ds
theorem zGH{d:PV→Int}{f:Int→PV→Bool}(hd:∀e,0≤d e):∀{es:List PV} {k:Int},0≤k→zAf d f k es=-1∨zAf d f k es=yv d k es
 | [],k,hk=>.inr rfl
 | e :: es,k,hk=>by
  simp only[zAf,yv]
  split
  ·exact zGH hd (es:=es) (k:=k+d e) (by have:=hd e;omega)
  ·exact .inl rfl
theorem zHN:∀{es:List PV} {k:Int},0≤k→zBV k es=-1∨zBV k es=zAM k es
 | [],k,hk=>.inr rfl
 | e :: es,k,hk=>by
  simp only[zBV,zAM]
  split
  ·exact zHN (es:=es) (k:=k+msN e) (by unfold msN;omega)
  ·exact .inl rfl
def zBC:zJ:=⟨[(.rd,.agg [.list (.agg [.int .i64,.int .i64,.int .i64,.int .i64,.int .i64,.bool,.list (.agg [.int .i64,.str]),.int .i64,.int .i64,.int .i64,.list (.int .i64),.list (.int .i64),.list (.int .i64)]),.list (.agg [.str,.int .i64]),.list (.agg [.int .i64,.int .i64,.int .i64,.int .i64,.int .i64,.int .i64,.int .i64,.bool,.list (.agg [.int .i64,.str])]),.list .str]),(.rd,.int .i64)],[.int .i64],true,fun ps=>0≤(nth ps 1).I∧cN4 (nth ps 1).I (nth ps 0).A≤1073741823,fun ps=>[.int .i64 (zGG (nth ps 1).I (nth (nth ps 0).A 0).L (nth (nth ps 0).A 1).L (nth (nth ps 0).A 2).L (nth (nth ps 0).A 3).L)],fun _=>[]⟩
theorem zGA:zh Tryz.prog 21 zBC:=by
 refine zP [0,1,2,4] [.tmp 4] (zA (cs:=[]) zF9 (zA (cs:=[]) zFL (zA (cs:=[]) zHK (zA (cs:=[]) zIL (zD (zB [])))))) mixed Tryz.func21 rfl (by decide) rfl (by decide) rfl ?_
 intro ps hT hpre W hW
 simp only[zBC,TyA,Ty,Tys] at hT hpre
 obtain⟨_,_,rfl,⟨_,rfl,_,_,rfl,⟨ns,rfl,hns,tns⟩,_,_,rfl,⟨ss,rfl,hss,tss⟩,_,_,rfl,⟨ws,rfl,hws,tws⟩,_,_,rfl,⟨ds,rfl,hds,tds⟩,rfl⟩,_,_,rfl,⟨k,rfl,hk⟩,rfl⟩:=hT
 simp only[zE,zF,yp,zAA,zBE,cN4,cN3,cN2,cN1] at hpre
 have a1:=zAd zC7 ns k
 have a2:=zAd zC4 ss (yv ndN k ns)
 have a3:=zBU ws (yv stN (yv ndN k ns) ss)
 have b1:=zGH (f:=yK) zC7 (es:=ns) hpre.1
 refine hW.vc [] _ _ ?_
 simp[-List.getD_eq_getElem?_getD,zBC,zAr,zAc,yn,zAL]
 refine⟨⟨hpre.1,by omega⟩,fun q=>by rw[zGG,if_pos q],fun q1=>?_⟩
 have c1:zAf ndN yK k ns=yv ndN k ns:=b1.resolve_left (fun e=>absurd q1 (by rw[e];decide))
 have b2:=zGH (f:=yu) zC4 (es:=ss) (k:=yv ndN k ns) (by omega)
 have n1:=Int.not_lt.2 q1
 refine⟨⟨q1,by rw[c1];omega⟩,fun q=>by rw[zGG,if_neg n1,if_pos q],fun q2=>?_⟩
 have c2:zAf stN yu (zAf ndN yK k ns) ss=yv stN (yv ndN k ns) ss:=by
  rw[c1] at q2 ⊢
  exact b2.resolve_left (fun e=>absurd q2 (by rw[e];decide))
 have b3:=zHN (es:=ws) (k:=yv stN (yv ndN k ns) ss) (by omega)
 have n2:=Int.not_lt.2 q2
 refine⟨⟨q2,by rw[c2];omega⟩,fun q=>by rw[zGG,if_neg n1,if_neg n2,if_pos q],fun q3=>?_⟩
 have c3:zBV (zAf stN yu (zAf ndN yK k ns) ss) ws=zAM (yv stN (yv ndN k ns) ss) ws:=by
  rw[c2] at q3 ⊢
  exact b3.resolve_left (fun e=>absurd q3 (by rw[e];decide))
 have n3:=Int.not_lt.2 q3
 refine⟨⟨q3,by rw[c3];omega⟩,fun q=>?_,fun _=>by rw[zGG,if_neg n1,if_neg n2,if_neg n3]⟩
 rw[zGG,if_neg n1,if_neg n2,if_neg n3]
 exact(zI4 (f:=zDS) (d:=1) (by omega) q3 q).symm
theorem zJv{k:Int}{ns ss ws ds:List PV}(h:0≤k):zGG k (yT ndN mkN k ns) (yT stN zGj (yv ndN k ns) ss) (yw (yv stN (yv ndN k ns) ss) ws) (zCa (zAM (yv stN (yv ndN k ns) ss) ws) ds.length)=cN4 k [.list ns,.list ss,.list ws,.list ds]:=by
 have a1:=zAd zC7 ns k
 have a2:=zAd zC4 ss (yv ndN k ns)
 have a3:=zBU ws (yv stN (yv ndN k ns) ss)
 rw[zGG,zIR,zHM,zEm,zJu,if_neg (by omega),if_neg (by omega),if_neg (by omega)]
 rfl
end
section
variable [zS]
theorem Sm.clu{c:CL}(h:Sm c):zFe [.list c.ns,.list c.ss,.list c.ws,.list c.ds]:=by
 have nl:=h.nl;have sl:=h.sl;have wl:=h.wl;have dl:=h.dl
 refine⟨⟨by simp only[zE,zAA];omega,fun e he=>?_⟩,by simp only[zE,zF,zAA];omega,⟨by simp only[zE,zF,zAA];omega,fun e he=>?_⟩,by simp only[zE,zF,zAA];omega⟩
 ·obtain⟨a,b,c,d⟩:=h.n e he
  exact⟨by omega,by omega,by omega,by omega⟩
 ·have:=h.w e he;omega
theorem zFU{d:PV→Int}{k0:Int}:∀{es:List PV} {k:Int},(∀e∈es,d e≤k0)→yv d k es≤k+k0*es.length
 | [],k,_=>by simp[yv]
 | e :: es,k,h=>by
  have h1:=h e (by simp)
  have ih:=zFU (es:=es) (k:=k+d e) fun x hx=>h x (by simp[hx])
  simp only[yv,List.length_cons]
  rw[show((es.length+1:Nat):Int)=es.length+1 by omega,Int.mul_add]
  omega
theorem zH9{x:ND}(h1:x.log.length≤5000)(h2:x.vs.length≤5000)(h3:x.nx.length≤5000)(h4:x.ms.length≤5000):zWR x.pv:=⟨h1,h2,h3,h4⟩
theorem zW1{x:ND}(h:NdF x):zWR x.pv:=by
 have n1:=h.n1;have n5:=h.n5;have l6:=h.l6;have nx:=h.nx;have ms:=h.ms
 have:=zJD h.vo (by omega)
 exact zH9 (by omega) (by omega) (by omega) (by omega)
theorem ClI.sm{c:CL}(h:ClI c):Sm c:=by
 have n5:=h.n5;have sl:=h.sl;have wl:=h.wl;have dl:=h.dl
 refine⟨by omega,fun e he=>?_,by omega,by omega,fun e he=>h.es he,by omega⟩
 obtain⟨i,hi,rfl⟩:=List.getElem_of_mem he
 obtain⟨x,b,h1,_,h3⟩:=h.nd i hi
 have:c.ns[i]=x.pv:=by rw[←h1,zHX hi]
 rw[this]
 exact zW1 h3.F
theorem zJG:∀(es:List PV) (k:Int),zAM k es=yv msN k es
 | [],_=>rfl
 | e :: es,k=>by simp only[zAM,yv];exact zJG es _
theorem Sm.cN{c:CL}(h:Sm c):0≤cN4 1 [.list c.ns,.list c.ss,.list c.ws,.list c.ds]∧cN4 1 [.list c.ns,.list c.ss,.list c.ws,.list c.ds]≤300000000:=by
 have g:=zQl 1 [.list c.ns,.list c.ss,.list c.ws,.list c.ds]
 refine⟨by omega,?_⟩
 have nl:=h.nl;have sl:=h.sl;have wl:=h.wl;have dl:=h.dl
 have a1:=zFU (d:=ndN) (k0:=25009) (k:=1) (es:=c.ns) fun e he=>by
  obtain⟨a,b,c,d⟩:=h.n e he
  unfold ndN;omega
 have a2:=zFU (d:=stN) (k0:=2) (k:=cN1 1 [.list c.ns,.list c.ss,.list c.ws,.list c.ds]) (es:=c.ss) fun e he=>by simp[stN]
 have a3:=zFU (d:=msN) (k0:=10008) (k:=cN2 1 [.list c.ns,.list c.ss,.list c.ws,.list c.ds]) (es:=c.ws) fun e he=>by
  have:=h.w e he
  unfold msN;omega
 rw[←zJG] at a3
 unfold cN4 cN3
 unfold cN2 at *
 unfold cN1 at *
 simp only[zE,zF,zAA] at *
 omega
theorem zOd:Sm ⟨[],[],[],[]⟩:=⟨by simp,by simp,by simp,by simp,by simp,by simp⟩
end
section
variable [zS]
def za7(e:PV)(l:Int):Int:=zFH l (nth e.A 4).S.length
theorem zXE(e:PV)(l:Int)(h:0≤l):-1≤za7 e l∧za7 e l≤l:=by
 have:=zDx (n:=(nth e.A 4).S.length) h
 exact⟨this.2.1,this.1⟩
def zBb:zJ:=⟨[(.rd,.agg [.int .i64,.int .i64,.int .i64,.int .i64,.str]),(.rd,.int .i64)],[.int .i64],true,fun ps=>0≤(nth ps 1).I,fun ps=>[.int .i64 (zFH (nth ps 1).I (nth (nth ps 0).A 4).S.length)],fun _=>[]⟩
theorem zJN:zh Tryz.prog 24 zBb:=by
 refine zP [0,1,2,4] [.tmp 4] (zD (zB [])) mixed Tryz.func24 rfl (by decide) rfl (by decide) rfl ?_
 intro ps hT hpre W hW
 simp only[zBb,TyA,Ty,Tys] at hT hpre
 obtain⟨_,_,rfl,⟨_,rfl,_,_,rfl,⟨ak,rfl,hak⟩,_,_,rfl,⟨an,rfl,han⟩,_,_,rfl,⟨aw,rfl,haw⟩,_,_,rfl,⟨ap,rfl,hap⟩,_,_,rfl,⟨ad,rfl,had⟩,rfl⟩,_,_,rfl,⟨l,rfl,hl⟩,rfl⟩:=hT
 simp only[zE,zF,yp] at hpre
 refine hW.vc [] _ _ ?_
 simp[-List.getD_eq_getElem?_getD,zBb]
 intro h1
 rw[zHR] at hl
 rw[zC (by omega)]
 exact⟨fun h=>by rw[zFH,if_pos h],fun h=>by rw[zFH,if_neg (Int.not_lt.2 h)]⟩
def zDq:zJ:=⟨[(.rd,.list (.agg [.int .i64,.int .i64,.int .i64,.int .i64,.str])),(.rd,.int .i64)],[.int .i64],true,fun ps=>0≤(nth ps 1).I,fun ps=>[.int .i64 (zEV za7 (nth ps 0).L (nth ps 1).I)],fun _=>[]⟩
theorem zQF:zh Tryz.prog 11 zDq:=by
 refine zP [0,1,4,5] [.tmp 4] (zA (cs:=[]) zJN (zD (zB []))) mixed Tryz.func11 rfl (by decide) rfl (by decide) rfl ?_
 intro ps hT hpre W hW
 simp only[zDq,TyA,Ty,Tys] at hT hpre
 obtain⟨_,_,rfl,⟨es,rfl,hes,tes⟩,_,_,rfl,⟨l,rfl,hl⟩,rfl⟩:=hT
 simp only[zE,zF,yp] at hpre
 refine hW.vc [] _ _ ?_
 simp[-List.getD_eq_getElem?_getD,zDq,zBb]
 intro h1
 rw[zHR] at hl
 rw[zC (by omega)]
 refine⟨fun h=>by simp[zEV,h],fun h=>?_⟩
 refine hW.loopS _ _ _ [.sl 1 .dp (.int .i64),.sl 5 .dp (.int .i64)] (fun ys=>∃(x:Int) (i:Nat),ys=[.int .i64 x,.int .i64 i]∧0≤x∧x≤l∧i≤es.length∧zEV za7 es l=szF za7 (es.drop i) x) (fun ys=>es.length - (nth ys 1).I.toNat) ?_ ?_
 ·simp[-List.getD_eq_getElem?_getD,zDq,zBb]
  exact⟨_,0,⟨rfl,rfl⟩,h,by omega,by simp,by simp[zEV,Int.not_lt.2 h]⟩
 ·rintro ys ⟨x,i,rfl,h2,h3,h4,h5⟩
  refine hW.vc [] _ _ ?_
  simp[-List.getD_eq_getElem?_getD,zDq,zBb]
  refine fun _=>⟨fun h6=>⟨h6,?_⟩,fun h6=>by rw[h5,List.drop_eq_nil_of_le h6];rfl⟩
  intros
  have h7:=(zXE (nth es i) x h2)
  rw[zG h6,szF] at h5
  obtain⟨y,hy⟩:∃y,y=za7 (nth es i) x:=⟨_,rfl⟩
  have hy':=hy
  unfold za7 at hy'
  rw[←hy] at h5 h7
  refine⟨h2,fun h8=>?_,fun h8=>⟨⟨y,i+1,⟨hy'.symm,?_⟩,?_,by omega,by omega,?_⟩,?_⟩⟩
  ·rw[h5,if_pos (by rw[hy'];exact h8)]
  ·rw[zC (by omega)];omega
  ·rw[hy'];exact h8
  ·rw[h5,if_neg (by rw[hy'];exact Int.not_lt.2 h8)]
  ·rw[zC (by omega)];omega
def zBa:zJ:=⟨[(.rd,.agg [.int .i64,.int .i64,.int .i64,.int .i64,.str])],[.agg [.int .i64,.int .i64,.int .i64,.int .i64,.str]],true,fun _=>True,fun ps=>[nth ps 0],fun _=>[]⟩
theorem zJM:zh Tryz.prog 27 zBa:=by
 refine zP [0,1,2,3] [.cell 2 54] (zD (zB [])) mixed Tryz.func27 rfl (by decide) rfl (by decide) rfl ?_
 intro ps hT hpre W hW
 simp only[zBa,TyA,Ty,Tys] at hT hpre
 obtain⟨_,_,rfl,⟨_,rfl,_,_,rfl,⟨ak,rfl,hak⟩,_,_,rfl,⟨an,rfl,han⟩,_,_,rfl,⟨aw,rfl,haw⟩,_,_,rfl,⟨ap,rfl,hap⟩,_,_,rfl,⟨ad,rfl,had⟩,rfl⟩,rfl⟩:=hT
 refine hW.vc [] _ _ ?_
 simp[-List.getD_eq_getElem?_getD,zBa]
def zDm:zJ:=⟨[(.rd,.list (.agg [.int .i64,.int .i64,.int .i64,.int .i64,.str]))],[.list (.agg [.int .i64,.int .i64,.int .i64,.int .i64,.str])],true,fun ps=>(nth ps 0).L.length≤1048576,fun ps=>[.list (nth ps 0).L],fun _=>[]⟩
theorem zQB:zh Tryz.prog 13 zDm:=by
 refine zP [0,2,3,4] [.tmp 2] (zA (cs:=[]) zJM (zD (zB []))) mixed Tryz.func13 rfl (by decide) rfl (by decide) rfl ?_
 intro ps hT hpre W hW
 simp only[zDm,TyA,Ty,Tys] at hT hpre
 obtain⟨_,_,rfl,⟨es,rfl,hes,tes⟩,rfl⟩:=hT
 simp only[zE,zAA] at hpre
 refine hW.vc [] _ _ ?_
 simp[-List.getD_eq_getElem?_getD,zDm,zBa]
 refine fun h1=>⟨by omega,hW.loopS _ _ _ [.sl 3 .dp (.list (.agg [.int .i64,.int .i64,.int .i64,.int .i64,.str])),.sl 4 .dp (.int .i64)] (fun ys=>∃(out:List PV) (i:Nat),ys=[.list out,.int .i64 i]∧i≤es.length∧out.length=es.length∧out.take i=es.take i) (fun ys=>es.length - (nth ys 1).I.toNat) ?_ ?_⟩
 ·simp[-List.getD_eq_getElem?_getD,zDm,zBa]
  exact⟨_,0,⟨rfl,rfl⟩,by simp,by simp,by simp⟩
 ·rintro ys ⟨out,i,rfl,h2,h3,h4⟩
  refine hW.vc [] _ _ ?_
  simp[-List.getD_eq_getElem?_getD,zDm,zBa]
  refine fun _=>⟨fun h5=>⟨h5,?_⟩,fun h5=>?_⟩
  ·intros
   skip
   obtain⟨_,he,_,_,rfl,⟨_,rfl,_⟩,_,_,rfl,⟨_,rfl,_⟩,_,_,rfl,⟨_,rfl,_⟩,_,_,rfl,⟨_,rfl,_⟩,_,_,rfl,⟨_,rfl,_⟩,rfl⟩:=tes _ (zb h5)
   rw[zC (n:=(i:Int)+1) (by omega)]
   refine⟨by omega,?_⟩
   refine⟨⟨_,i+1,⟨rfl,by omega⟩,by omega,by simp[h3],zD1 h4 h3 h5 (by rw[he];rfl)⟩,by omega⟩
  ·rw[List.take_of_length_le (by omega),List.take_of_length_le (by omega)] at h4
   exact h4
def zfD(a b:List PV):Bool:=(nth a 0).I == (nth b 0).I&&(nth a 1).I == (nth b 1).I&&(nth a 2).I == (nth b 2).I&&(nth a 3).I == (nth b 3).I&&(nth a 4).S == (nth b 4).S
def zWn(a b:PV):Bool:=zfD a.A b.A
theorem zYV(a:List PV):zfD a a=true:=by simp[zfD]
theorem zWm(es:List PV):eqL zWn es es=true:=y9 fun _=>zYV _
def zEK:zJ:=⟨[(.rd,.agg [.int .i64,.int .i64,.int .i64,.int .i64,.str]),(.rd,.agg [.int .i64,.int .i64,.int .i64,.int .i64,.str])],[.bool],true,fun _=>True,fun ps=>[.bool (zfD (nth ps 0).A (nth ps 1).A)],fun _=>[]⟩
theorem zQ4:zh Tryz.prog 56 zEK:=by
 refine zP [0,1,2,3,4] [.tmp 4] (zD (zB [])) mixed Tryz.func56 rfl (by decide) rfl (by decide) rfl ?_
 intro ps hT hpre W hW
 simp only[zEK,TyA,Ty,Tys] at hT hpre
 obtain⟨_,_,rfl,⟨_,rfl,_,_,rfl,⟨a1,rfl,ha1⟩,_,_,rfl,⟨a2,rfl,ha2⟩,_,_,rfl,⟨a3,rfl,ha3⟩,_,_,rfl,⟨a4,rfl,ha4⟩,_,_,rfl,⟨a5,rfl,ha5⟩,rfl⟩,_,_,rfl,⟨_,rfl,_,_,rfl,⟨b1,rfl,hb1⟩,_,_,rfl,⟨b2,rfl,hb2⟩,_,_,rfl,⟨b3,rfl,hb3⟩,_,_,rfl,⟨b4,rfl,hb4⟩,_,_,rfl,⟨b5,rfl,hb5⟩,rfl⟩,rfl⟩:=hT
 refine hW.vc [] _ _ ?_
 simp[-List.getD_eq_getElem?_getD,zEK]
 simp only[zfD,zE,zF,yp,zEW]
 exact⟨fun q1=>by simp[q1],fun q1=>⟨fun q2=>by simp[q2],fun q2=>⟨fun q3=>by simp[q3],fun q3=>⟨fun q4=>by simp[q4],fun q4=>⟨fun q5=>by simp[q5],fun q5=>by simp[q1,q2,q3,q4,q5]⟩⟩⟩⟩⟩
def zDs:zJ:=⟨[(.rd,.list (.agg [.int .i64,.int .i64,.int .i64,.int .i64,.str])),(.rd,.list (.agg [.int .i64,.int .i64,.int .i64,.int .i64,.str]))],[.bool],true,fun _=>True,fun ps=>[.bool (eqL zWn (nth ps 0).L (nth ps 1).L)],fun _=>[]⟩
theorem zQN:zh Tryz.prog 17 zDs:=by
 refine zP [0,1,4,5] [.tmp 4] (zA (cs:=[]) zQ4 (zD (zB []))) mixed Tryz.func17 rfl (by decide) rfl (by decide) rfl ?_
 intro ps hT hpre W hW
 simp only[zDs,TyA,Ty,Tys] at hT hpre
 obtain⟨_,_,rfl,⟨es,rfl,hes,tes⟩,_,_,rfl,⟨es2,rfl,hes2,tes2⟩,rfl⟩:=hT
 refine hW.vc [(6,[],tkN [0,1,2,3,4,5,6,7] (alS 8 (tkN [9] .done)))] _ _ ?_
 simp[-List.getD_eq_getElem?_getD,zDs,zEK]
 refine fun h1 h2=>⟨fun h3=>zAX (by omega),fun h3=>?_⟩
 refine hW.loopS _ _ _ [.sl 5 .dp (.int .i64)] (fun ys=>∃i:Nat,ys=[.int .i64 i]∧i≤es.length∧eqL zWn es es2=eqL zWn (es.drop i) (es2.drop i)) (fun ys=>es.length - (nth ys 0).I.toNat) ?_ ?_
 ·simp[-List.getD_eq_getElem?_getD,zDs,zEK]
  exact⟨0,rfl,by simp,by simp⟩
 ·rintro ys ⟨i,rfl,h4,h5⟩
  refine hW.vc [(6,[],tkN [0,1,2,3,4,5,6,7] (alS 8 (tkN [9] .done)))] _ _ ?_
  simp[-List.getD_eq_getElem?_getD,zDs,zEK]
  refine fun _=>⟨fun h6=>⟨by decide +kernel,h6,?_⟩,fun h6=>?_⟩
  ·intros
   refine⟨by omega,?_⟩
   intros
   rw[zG h6,zG (by omega:i < es2.length),eqL] at h5
   rw[zC (n:=(i:Int)+1) (by omega)]
   refine⟨fun h7=>?_,fun h7=>⟨⟨i+1,by omega,by omega,?_⟩,by omega⟩⟩
   ·have h8:zWn (nth es i) (nth es2 i)=false:=h7
    rw[h5,h8];rfl
   ·have h8:zWn (nth es i) (nth es2 i)=true:=h7
    rw[h5,h8,Bool.true_and]
  ·rw[h5,List.drop_eq_nil_of_le h6,List.drop_eq_nil_of_le (by omega)];rfl
def acN(e:PV):Int:=5
theorem zY2(e:PV):0≤acN e:=by unfold acN;decide
def zZW(k:Int)(e:PV):PV:=.agg [.int .i64 k,.int .i64 (k+1),.int .i64 (k+2),.int .i64 (k+3),.str (zES (k+4))]
def zCT:zJ:=⟨[(.mt,.list (.agg [.int .i64,.int .i64,.int .i64,.int .i64,.str])),(.rd,.int .i64)],[.int .i64],true,fun ps=>0≤(nth ps 1).I∧yv acN (nth ps 1).I (nth ps 0).L≤1073741823,fun ps=>[.int .i64 (yv acN (nth ps 1).I (nth ps 0).L)],fun ps=>[.list (yT acN zZW (nth ps 1).I (nth ps 0).L)]⟩
theorem zOB:zh Tryz.prog 18 zCT:=by
 refine zP [0,1,4,5] [.tmp 4] (zA (cs:=[]) zA4 (zD (zB []))) mixed Tryz.func18 rfl (by decide) rfl (by decide) rfl ?_
 intro ps hT hpre W hW
 simp only[zCT,TyA,Ty,Tys] at hT hpre
 obtain⟨_,_,rfl,⟨es,rfl,hes,tes⟩,_,_,rfl,⟨k,rfl,hk⟩,rfl⟩:=hT
 simp only[zE,zF,yp,zAA] at hpre
 refine hW.vc [] _ _ ?_
 simp[-List.getD_eq_getElem?_getD,zCT,zZ]
 refine hW.loopS _ _ _ [.ar 0 (.agg [.int .i64,.int .i64,.int .i64,.int .i64,.str]),.sl 1 .dp (.int .i64),.sl 5 .dp (.int .i64)] (fun ys=>∃i:Nat,ys=[.list (yT acN zZW k (es.take i)++es.drop i),.int .i64 (yv acN k (es.take i)),.int .i64 i]∧i≤es.length) (fun ys=>es.length - (nth ys 2).I.toNat) ?_ ?_
 ·simp[-List.getD_eq_getElem?_getD,zCT,zZ]
  exact⟨0,⟨by simp[yT],by simp[yv],rfl⟩,by omega⟩
 ·rintro ys ⟨i,rfl,h2⟩
  by_cases h3:i < es.length
  ·have h4:i < (yT acN zZW k (es.take i)++es.drop i).length:=by rw[List.length_append,yz,List.length_take,List.length_drop];omega
   have h5:(yT acN zZW k (es.take i)++es.drop i).length=es.length:=by rw[List.length_append,yz,List.length_take,List.length_drop];omega
   obtain⟨L,hL⟩:∃L,L=yT acN zZW k (es.take i)++es.drop i:=⟨_,rfl⟩
   obtain⟨K,hK⟩:∃K,K=yv acN k (es.take i):=⟨_,rfl⟩
   rw[←hL] at h4 h5
   rw[←hL,←hK]
   have h6:∀x,nth (L.set i x) i=x:=fun x=>zEc h4
   refine hW.vc [] _ _ ?_
   simp[-List.getD_eq_getElem?_getD,zCT,zZ,h6]
   have g1:=zC3 zY2 es k h3
   have g2:=zAd zY2 (es.take i) k
   rw[←hK] at g1 g2
   have g4:acN (nth es i)=5:=rfl
   have e1:IntKind.i64.wrap (K+1)=K+1:=zC (by omega)
   have e2:IntKind.i64.wrap (K+1+1)=K+2:=by rw[zC (by omega)];omega
   have e3:IntKind.i64.wrap (K+2+1)=K+3:=by rw[zC (by omega)];omega
   have e4:IntKind.i64.wrap (K+3+1)=K+4:=by rw[zC (by omega)];omega
   have e5:IntKind.i64.wrap (K+4+1)=K+5:=by rw[zC (by omega)];omega
   have e10:IntKind.i64.wrap ((i:Int)+1)=(i:Int)+1:=zC (by rw[LIM] at hes;omega)
   simp only[e1,e2,e3,e4,e5,e10]
   refine fun _=>⟨fun _=>⟨h4,by omega,h4,⟨i+1,⟨?_,?_,rfl⟩,h3⟩,by omega⟩,fun h=>by omega⟩
   ·rw[zd h3,zDH,hL]
    exact zBY (by rw[yz,List.length_take];omega) h3 (by rw[←hK];rfl)
   ·rw[zd h3,zA8,←hK,g4]
  ·have:i=es.length:=by omega
   subst this
   have h4:yT acN zZW k (es.take es.length)++es.drop es.length=yT acN zZW k es:=by simp
   have h5:(yT acN zZW k es).length=es.length:=yz es k
   rw[h4,List.take_length]
   obtain⟨L,hL⟩:∃L,L=yT acN zZW k es:=⟨_,rfl⟩
   rw[←hL] at h5 ⊢
   have h6:∀x,nth (L.set es.length x) es.length=PV.d:=fun x=>by simp[nth,h5]
   refine hW.vc [] _ _ ?_
   simp[-List.getD_eq_getElem?_getD,zCT,zZ,h6,h5]
   exact fun _=>hL
end
section
variable [zS]
def zL:zJ:=⟨[(.rd,.agg [.list (.agg [.int .i64,.int .i64,.int .i64,.int .i64,.int .i64,.bool,.list (.agg [.int .i64,.str]),.int .i64,.int .i64,.int .i64,.list (.int .i64),.list (.int .i64),.list (.int .i64)]),.list (.agg [.str,.int .i64]),.list (.agg [.int .i64,.int .i64,.int .i64,.int .i64,.int .i64,.int .i64,.int .i64,.bool,.list (.agg [.int .i64,.str])]),.list .str])],[.agg [.list (.agg [.int .i64,.int .i64,.int .i64,.int .i64,.int .i64,.bool,.list (.agg [.int .i64,.str]),.int .i64,.int .i64,.int .i64,.list (.int .i64),.list (.int .i64),.list (.int .i64)]),.list (.agg [.str,.int .i64]),.list (.agg [.int .i64,.int .i64,.int .i64,.int .i64,.int .i64,.int .i64,.int .i64,.bool,.list (.agg [.int .i64,.str])]),.list .str]],true,fun ps=>zFe (nth ps 0).A,fun ps=>[nth ps 0],fun _=>[]⟩
end
section
variable [zS]
def ya:zJ:=zL
set_option maxHeartbeats 2000000 in
theorem zG9:zh Tryz.prog 48 ya:=by
 refine zP [0,1,2,3,4,5,6,7] [.cell 2 29] (zA (cs:=[]) zI2 (zD (zB []))) mixed Tryz.func48 rfl (by decide) rfl (by decide) rfl ?_
 intro ps hT hpre W hW
 simp only[ya,TyA,Ty,Tys] at hT hpre
 simp only[zL,TyA,Ty,Tys] at hT hpre
 obtain⟨_,_,rfl,⟨_,rfl,_,_,rfl,⟨ns,rfl,hns,tns⟩,_,_,rfl,⟨ss,rfl,hss,tss⟩,_,_,rfl,⟨ws,rfl,hws,tws⟩,_,_,rfl,⟨ds,rfl,hds,tds⟩,rfl⟩,rfl⟩:=hT
 simp only[zE,zF,zBE,zAA,zFe] at hpre
 obtain⟨⟨p1,p2⟩,p3,⟨p4,p5⟩,p6⟩:=hpre
 refine hW.vc [] _ _ ?_
 simp[-List.getD_eq_getElem?_getD,ya,zAz,zL,zj,zj]
 refine hW.loopS _ _ _ [.sl 3 .dp (.list (.agg [.int .i64,.int .i64,.int .i64,.int .i64,.int .i64,.bool,.list (.agg [.int .i64,.str]),.int .i64,.int .i64,.int .i64,.list (.int .i64),.list (.int .i64),.list (.int .i64)])),.sl 4 .dp (.int .i64)] (fun ys=>∃i:Nat,ys=[.list (ns.take i),.int .i64 i]∧i≤ns.length) (fun ys=>ns.length - (nth ys 1).I.toNat) ?_ ?_
 ·simp[-List.getD_eq_getElem?_getD,ya,zAz,zL,zj]
  exact⟨0,⟨.inl rfl,rfl⟩,by omega⟩
 ·rintro ys ⟨i,rfl,g1⟩
  have w1:IntKind.i64.wrap ((i:Int)+1)=i+1:=zC (by omega)
  refine hW.vc [] _ _ ?_
  simp[-List.getD_eq_getElem?_getD,ya,zAz,zL,zj,zj,w1]
  refine fun _=>⟨fun h=>⟨h,?_⟩,fun h=>⟨by omega,?_⟩⟩
  ·clear hW
   intros
   have hq:=p2 _ (zb h)
   obtain⟨_,he,_,_,rfl,⟨_,rfl,_⟩,_,_,rfl,⟨_,rfl,_⟩,_,_,rfl,⟨_,rfl,_⟩,_,_,rfl,⟨_,rfl,_⟩,_,_,rfl,⟨_,rfl,_⟩,_,_,rfl,⟨_,rfl⟩,_,_,rfl,⟨_,rfl,_,_⟩,_,_,rfl,⟨_,rfl,_⟩,_,_,rfl,⟨_,rfl,_⟩,_,_,rfl,⟨_,rfl,_⟩,_,_,rfl,⟨_,rfl,_,_⟩,_,_,rfl,⟨_,rfl,_,_⟩,_,_,rfl,⟨_,rfl,_,_⟩,rfl⟩:=tns _ (zb h)
   refine⟨hq,by omega,fun _=>⟨⟨i+1,⟨?_,by omega⟩,by omega⟩,by omega⟩⟩
   rw[zd h,he];rfl
  ·rw[List.take_of_length_le h]
   refine hW.loopS _ _ _ [.sl 5 .dp (.list (.agg [.int .i64,.int .i64,.int .i64,.int .i64,.int .i64,.int .i64,.int .i64,.bool,.list (.agg [.int .i64,.str])])),.sl 6 .dp (.int .i64)] (fun ys=>∃i:Nat,ys=[.list (ws.take i),.int .i64 i]∧i≤ws.length) (fun ys=>ws.length - (nth ys 1).I.toNat) ?_ ?_
   ·simp[-List.getD_eq_getElem?_getD,ya,zAz,zL,zj]
    exact⟨0,⟨.inl rfl,rfl⟩,by omega⟩
   ·rintro ys ⟨i,rfl,g1⟩
    have w1:IntKind.i64.wrap ((i:Int)+1)=i+1:=zC (by omega)
    refine hW.vc [] _ _ ?_
    simp[-List.getD_eq_getElem?_getD,ya,zAz,zL,zj,w1]
    refine fun _=>⟨fun h=>⟨h,?_⟩,fun h=>⟨by omega,List.take_of_length_le h⟩⟩
    clear hW
    intros
    have hq:=p5 _ (zb h)
    obtain⟨_,he,_,_,rfl,⟨_,rfl,_⟩,_,_,rfl,⟨_,rfl,_⟩,_,_,rfl,⟨_,rfl,_⟩,_,_,rfl,⟨_,rfl,_⟩,_,_,rfl,⟨_,rfl,_⟩,_,_,rfl,⟨_,rfl,_⟩,_,_,rfl,⟨_,rfl,_⟩,_,_,rfl,⟨_,rfl⟩,_,_,rfl,⟨_,rfl,_,_⟩,rfl⟩:=tws _ (zb h)
    refine⟨by omega,by omega,fun _=>⟨⟨i+1,⟨?_,by omega⟩,by omega⟩,by omega⟩⟩
    rw[zd h,he];rfl
end
section
variable [zS]
def rnR(nodes:Int)(acts:List PV):CL × List PV × Int:=if 4096 < acts.length then (clO,[],2) else cond (inB nodes 1 5) (if 240 < acts.length then (clO,[],6) else ((yM (yR nodes.toNat) acts).1,(yM (yR nodes.toNat) acts).2,0)) (clO,[],4)
def za:zJ:=⟨[(.rd,.int .i64),(.rd,.list (.agg [.int .i64,.int .i64,.int .i64,.int .i64,.str]))],[.agg [.list (.agg [.int .i64,.int .i64,.int .i64,.int .i64,.int .i64,.bool,.list (.agg [.int .i64,.str]),.int .i64,.int .i64,.int .i64,.list (.int .i64),.list (.int .i64),.list (.int .i64)]),.list (.agg [.str,.int .i64]),.list (.agg [.int .i64,.int .i64,.int .i64,.int .i64,.int .i64,.int .i64,.int .i64,.bool,.list (.agg [.int .i64,.str])]),.list .str],.list (.int .i64),.int .i64],true,fun _=>True,fun ps=>[(rnR (nth ps 0).I (nth ps 1).L).1.pv,.list (rnR (nth ps 0).I (nth ps 1).L).2.1,.int .i64 (rnR (nth ps 0).I (nth ps 1).L).2.2],fun _=>[]⟩
theorem zFY{nodes:Int}(h:1≤nodes∧nodes≤5):zCA nodes nodes.toNat=(yR nodes.toNat).ns∧List.replicate nodes.toNat st0=(yR nodes.toNat).ss:=by
 have e:((nodes.toNat:Nat):Int)=nodes:=by omega
 exact⟨by rw[yR,e],rfl⟩
theorem zEN{nodes:Int}(h:1≤nodes∧nodes≤5)(acts:List PV):ClI (yM (yR nodes.toNat) acts).1∧RtI (yM (yR nodes.toNat) acts).1:=by
 obtain⟨a,b⟩:=zK4 (nodes:=nodes.toNat) (by omega) (by omega)
 have:=zKj (acts:=acts) a b
 exact⟨this.1,this.2.1⟩
theorem zGW(e:PV):zDb [.int .i64 (nth e.A 0).I,.int .i64 (nth e.A 1).I,.int .i64 (nth e.A 2).I,.int .i64 (nth e.A 3).I,.str (nth e.A 4).S]=zDb e.A:=rfl
set_option maxHeartbeats 2000000 in
theorem zD8:zh Tryz.prog 14 za:=by
 refine zP [0,1,4,5,6,7,8,10,28,29,30] [.cell 4 29,.tmp 5,.tmp 6] (zA (cs:=[]) zQG (zA (cs:=[]) zEi (zA (cs:=[]) zA9 (zD (zB []))))) mixed Tryz.func14 rfl (by decide) rfl (by decide) rfl ?_
 intro ps hT hpre W hW
 simp only[za,TyA,Ty,Tys] at hT hpre
 obtain⟨_,_,rfl,⟨nodes,rfl,hnodes⟩,_,_,rfl,⟨acts,rfl,hacts,tacts⟩,rfl⟩:=hT
 have r1:4096 < acts.length→rnR nodes acts=(clO,[],2):=fun h=>by rw[rnR,if_pos h]
 have r2:¬4096 < acts.length→inB nodes 1 5=false→rnR nodes acts=(clO,[],4):=fun h h2=>by rw[rnR,if_neg h,h2];rfl
 have r3:¬4096 < acts.length→inB nodes 1 5=true→240 < acts.length→rnR nodes acts=(clO,[],6):=fun h h2 h3=>by rw[rnR,if_neg h,h2,cond_true,if_pos h3]
 have r4:¬4096 < acts.length→inB nodes 1 5=true→¬240 < acts.length→rnR nodes acts=((yM (yR nodes.toNat) acts).1,(yM (yR nodes.toNat) acts).2,0):=fun h h2 h3=>by rw[rnR,if_neg h,h2,cond_true,if_neg h3]
 refine hW.vc [] _ _ ?_
 simp[-List.reduceReplicate,-List.getD_eq_getElem?_getD,za,zT,zH,zFC,CL.pv,zBd]
 refine fun _=>⟨fun h=>?_,fun h=>⟨fun h2=>?_,fun h2 _=>⟨fun h3=>?_,fun h3=>⟨zk.1 h2,fun _=>?_⟩⟩⟩⟩
 ·rw[r1 (by omega)];exact⟨⟨rfl,rfl,rfl,rfl⟩,rfl,rfl⟩
 ·rw[r2 (by omega) h2];exact⟨⟨rfl,rfl,rfl,rfl⟩,rfl,rfl⟩
 ·rw[r3 (by omega) h2 (by omega)];exact⟨⟨rfl,rfl,rfl,rfl⟩,rfl,rfl⟩
 have hn:=zk.1 h2
 have hr:=r4 (by omega) h2 (by omega)
 obtain⟨e1,e2⟩:=zFY hn
 refine hW.loopS _ _ _ [.bx 7 [.list (.agg [.int .i64,.int .i64,.int .i64,.int .i64,.int .i64,.bool,.list (.agg [.int .i64,.str]),.int .i64,.int .i64,.int .i64,.list (.int .i64),.list (.int .i64),.list (.int .i64)]),.list (.agg [.str,.int .i64]),.list (.agg [.int .i64,.int .i64,.int .i64,.int .i64,.int .i64,.int .i64,.int .i64,.bool,.list (.agg [.int .i64,.str])]),.list .str],.sl 8 .dp (.list (.int .i64)),.sl 30 .dp (.int .i64)] (fun ys=>∃k:Nat,ys=[(yM (yR nodes.toNat) (acts.take k)).1.pv,.list (yM (yR nodes.toNat) (acts.take k)).2,.int .i64 k]∧k≤acts.length) (fun ys=>acts.length - (nth ys 2).I.toNat) ?_ ?_
 ·simp[-List.reduceReplicate,-List.getD_eq_getElem?_getD,za,zT,zH,zFC,CL.pv]
  exact⟨0,⟨⟨e1,e2,rfl,rfl⟩,rfl,rfl⟩,by omega⟩
 ·rintro ys ⟨k,rfl,g1⟩
  have w1:IntKind.i64.wrap ((k:Int)+1)=k+1:=zC (by omega)
  have hI:=zEN hn (acts.take k)
  have hl:=zDN (acts:=acts.take k) (c:=yR nodes.toNat)
  obtain⟨q,hq⟩:∃q,q=yM (yR nodes.toNat) (acts.take k):=⟨_,rfl⟩
  rw[←hq] at hI hl ⊢
  obtain⟨⟨ns,ss,ws,ds⟩,cs⟩:=q
  simp only[CL.pv]
  have hl:cs.length=min k acts.length:=by simpa[List.length_take] using hl
  refine hW.vc [] _ _ ?_
  simp[-List.reduceReplicate,-List.getD_eq_getElem?_getD,za,zT,zH,zFC,CL.pv,zBd,zGW,w1]
  refine⟨fun h5=>⟨h5,?_⟩,fun h5=>?_⟩
  ·clear hW
   intros
   have hs:=zEa (acts:=acts) (c:=yR nodes.toNat) h5
   rw[←hq] at hs
   refine⟨hI.1,by omega,fun _=>⟨⟨k+1,?_,by omega⟩,by omega⟩⟩
   rw[hs]
   exact⟨⟨rfl,rfl,rfl,rfl⟩,rfl,by omega⟩
  ·rw[List.take_of_length_le h5] at hq
   rw[hr,←hq]
   exact⟨⟨rfl,rfl,rfl,rfl⟩,rfl,rfl⟩
def zAJ:zJ:=za
set_option maxHeartbeats 2000000 in
theorem zF5:zh Tryz.prog 12 zAJ:=by
 refine zP [0,1,4,5,6,7,8,9,10,11] [.cell 4 29,.tmp 5,.tmp 6] (zA (cs:=[]) zG9 (zA (cs:=[]) zFK (zA (cs:=[]) zF8 (zA (cs:=[]) zFp (zD (zB [])))))) mixed Tryz.func12 rfl (by decide) rfl (by decide) rfl ?_
 intro ps hT hpre W hW
 simp only[zAJ,TyA,Ty,Tys] at hT hpre
 simp only[za,TyA,Ty,Tys] at hT
 obtain⟨_,_,rfl,⟨nodes,rfl,hnodes⟩,_,_,rfl,⟨acts,rfl,hacts,tacts⟩,rfl⟩:=hT
 have r1:4096 < acts.length→rnR nodes acts=(clO,[],2):=fun h=>by rw[rnR,if_pos h]
 have r2:¬4096 < acts.length→inB nodes 1 5=false→rnR nodes acts=(clO,[],4):=fun h h2=>by rw[rnR,if_neg h,h2];rfl
 have r3:¬4096 < acts.length→inB nodes 1 5=true→240 < acts.length→rnR nodes acts=(clO,[],6):=fun h h2 h3=>by rw[rnR,if_neg h,h2,cond_true,if_pos h3]
 have r4:¬4096 < acts.length→inB nodes 1 5=true→¬240 < acts.length→rnR nodes acts=((yM (yR nodes.toNat) acts).1,(yM (yR nodes.toNat) acts).2,0):=fun h h2 h3=>by rw[rnR,if_neg h,h2,cond_true,if_neg h3]
 refine hW.vc [(12,[10],tkN [0,1,2,3,4] (.alt 5 (tkN [6,7] (.alt 8 (alN [9,10,11] .done) (alS 9 (.alt 8 (alN [10,11] .done) (alS 10 (tkN [8] (alS 11 .done))))))) (alN [9,5] (tkN [6,7] (.alt 8 (alN [10,11] .done) (alS 10 (tkN [8] (alS 11 .done))))))))] _ _ ?_
 simp[-List.reduceReplicate,-List.getD_eq_getElem?_getD,zAJ,yC,zv,zw,ya,za,zH,zL,za,zT,zH,CL.pv,zBd]
 refine fun _=>⟨fun h=>?_,fun h=>⟨fun h2=>?_,fun h2 _=>⟨fun h3=>?_,fun h3=>⟨zk.1 h2,?_⟩⟩⟩⟩
 ·rw[r1 (by omega)];exact⟨⟨rfl,rfl,rfl,rfl⟩,rfl,rfl⟩
 ·rw[r2 (by omega) h2];exact⟨⟨rfl,rfl,rfl,rfl⟩,rfl,rfl⟩
 ·rw[r3 (by omega) h2 (by omega)];exact⟨⟨rfl,rfl,rfl,rfl⟩,rfl,rfl⟩
 have hn:=zk.1 h2
 have hr:=r4 (by omega) h2 (by omega)
 obtain⟨e1,e2⟩:=zFY hn
 refine hW.loopS _ _ _ [.fx 7 [.list (.agg [.int .i64,.int .i64,.int .i64,.int .i64,.int .i64,.bool,.list (.agg [.int .i64,.str]),.int .i64,.int .i64,.int .i64,.list (.int .i64),.list (.int .i64),.list (.int .i64)]),.list (.agg [.str,.int .i64]),.list (.agg [.int .i64,.int .i64,.int .i64,.int .i64,.int .i64,.int .i64,.int .i64,.bool,.list (.agg [.int .i64,.str])]),.list .str],.sl 8 .dp (.list (.int .i64)),.sl 9 .dp (.int .i64)] (fun ys=>∃k:Nat,ys=[(yM (yR nodes.toNat) (acts.take k)).1.pv,.list (yM (yR nodes.toNat) (acts.take k)).2,.int .i64 k]∧k≤acts.length) (fun ys=>acts.length - (nth ys 2).I.toNat) ?_ ?_
 ·simp[-List.reduceReplicate,-List.getD_eq_getElem?_getD,zAJ,yC,zv,zw,ya,za,zH,zL,CL.pv]
  exact⟨0,⟨⟨e1,e2,rfl,rfl⟩,rfl,rfl⟩,by omega⟩
 ·rintro ys ⟨k,rfl,g1⟩
  have w1:IntKind.i64.wrap ((k:Int)+1)=k+1:=zC (by omega)
  have hI:=zEN hn (acts.take k)
  have hl:=zDN (acts:=acts.take k) (c:=yR nodes.toNat)
  obtain⟨q,hq⟩:∃q,q=yM (yR nodes.toNat) (acts.take k):=⟨_,rfl⟩
  rw[←hq] at hI hl ⊢
  obtain⟨⟨ns,ss,ws,ds⟩,cs⟩:=q
  simp only[CL.pv]
  have hl:cs.length=min k acts.length:=by simpa[List.length_take] using hl
  refine hW.vc [(12,[10],tkN [0,1,2,3,4] (.alt 5 (tkN [6,7] (.alt 8 (alN [9,10,11] .done) (alS 9 (.alt 8 (alN [10,11] .done) (alS 10 (tkN [8] (alS 11 .done))))))) (alN [9,5] (tkN [6,7] (.alt 8 (alN [10,11] .done) (alS 10 (tkN [8] (alS 11 .done))))))))] _ _ ?_
  simp[-List.reduceReplicate,-List.getD_eq_getElem?_getD,zAJ,yC,zv,zw,ya,za,zH,zL,CL.pv,zBd,zGW,w1,zL]
  refine fun _=>⟨fun h5=>⟨by decide +kernel,h5,?_⟩,fun h5=>?_⟩
  ·clear hW
   intros
   have hs:=zEa (acts:=acts) (c:=yR nodes.toNat) h5
   rw[←hq] at hs
   refine⟨hI.1,by omega,fun _=>⟨⟨k+1,?_,by omega⟩,by omega⟩⟩
   rw[hs]
   exact⟨⟨rfl,rfl,rfl,rfl⟩,rfl,by omega⟩
  ·rw[List.take_of_length_le h5] at hq
   rw[hr,←hq]
   exact⟨hI.1.sm.clu,⟨rfl,rfl,rfl,rfl⟩,rfl,rfl⟩
end
section
variable [zS]
theorem zHF:∀(es:List PV) (k k':Int),zAM k' (yw k es)=zAM k' es
 | [],_,_=>rfl
 | e :: es,k,k'=>by
  simp only[yw,zAM,zK6]
  exact zHF es _ _
theorem zTt(ns ss ws ds:List PV):cN4 1 [.list (yT ndN mkN 1 ns),.list (yT stN zGj (cN1 1 [.list ns,.list ss,.list ws,.list ds]) ss),.list (yw (cN2 1 [.list ns,.list ss,.list ws,.list ds]) ws),.list (zCa (cN3 1 [.list ns,.list ss,.list ws,.list ds]) ds.length)]=cN4 1 [.list ns,.list ss,.list ws,.list ds]:=by
 simp only[cN4,cN3,cN2,cN1,zE,zF,zAA,zDe zOe,zDe (m:=zGj) (d:=stN) (fun _ _=>rfl),zHF,zDQ]
theorem zNh(ns ss ws ds:List PV):zGG 1 (yT ndN mkN 1 ns) (yT stN zGj (cN1 1 [.list ns,.list ss,.list ws,.list ds]) ss) (yw (cN2 1 [.list ns,.list ss,.list ws,.list ds]) ws) (zCa (cN3 1 [.list ns,.list ss,.list ws,.list ds]) ds.length)=cN4 1 [.list ns,.list ss,.list ws,.list ds]:=
 zJv (k:=1) (ns:=ns) (ss:=ss) (ws:=ws) (ds:=ds) (by decide)
end
section
variable [zS]
theorem lt3:3 < Tryz.prog.types.size:=of_decide_eq_true (by kernel_rfl)
theorem D3:Dat Tryz.prog 3 false [.int .i64]:=.int Tryz.underlying3 lt3
theorem lt9:9 < Tryz.prog.types.size:=of_decide_eq_true (by kernel_rfl)
theorem D9:Dat Tryz.prog 9 false [.str]:=.str Tryz.underlying9 lt9
theorem lt48:48 < Tryz.prog.types.size:=of_decide_eq_true (by kernel_rfl)
theorem D48:Dat Tryz.prog 48 true [.int .i64,.int .i64,.int .i64,.int .i64,.str]:=.struct Tryz.underlying48 (.cons (l:=[.int .i64]) (m:=[.int .i64,.int .i64,.int .i64,.str]) D3 (by kernel_rfl) (.cons (l:=[.int .i64]) (m:=[.int .i64,.int .i64,.str]) D3 (by kernel_rfl) (.cons (l:=[.int .i64]) (m:=[.int .i64,.str]) D3 (by kernel_rfl) (.cons (l:=[.int .i64]) (m:=[.str]) D3 (by kernel_rfl) (.cons (l:=[.str]) (m:=[]) D9 (by kernel_rfl) .nil))))) (by kernel_rfl) lt48
theorem lt22:22 < Tryz.prog.types.size:=of_decide_eq_true (by kernel_rfl)
theorem D22:Dat Tryz.prog 22 false [.list (.agg [.int .i64,.int .i64,.int .i64,.int .i64,.str])]:=.slice (e:=48) (g:=true) (l:=[.int .i64,.int .i64,.int .i64,.int .i64,.str]) Tryz.underlying22 D48 (by kernel_rfl) (by decide) (of_decide_eq_true (by kernel_rfl)) lt22
end
section
variable [zS]
def zJU:zJ:=⟨[(.rd,.int .i64),(.rd,.list (.agg [.int .i64,.int .i64,.int .i64,.int .i64,.str]))],[.bool],true,fun _=>True,fun _=>[.bool true],fun _=>[]⟩
set_option maxHeartbeats 2000000 in
theorem zY6:zh Tryz.prog 3 zJU:=by
 refine zP [0,1,4,5,6,7,8,9,10,11,12,13,14,15,16,17,18] [.tmp 4] (zA (cs:=[]) zHj (zA (cs:=[]) zGA (zA (cs:=[]) zHi (zA (cs:=[]) zF7 (zA (cs:=[]) zOB (zA (cs:=[]) zQN (zA (cs:=[]) zLg (zA (cs:=[]) zIO (zA (cs:=[]) zD8 (zA (cs:=[]) zF5 (zA (cs:=[]) zQB (zA (cs:=[]) zQF (zD (zB [])))))))))))))) mixed Tryz.func3 rfl (by decide) rfl (by decide) rfl ?_
 intro ps hT hpre W hW
 simp only[zJU,TyA,Ty,Tys] at hT hpre
 obtain⟨_,_,rfl,⟨nodes,rfl,hnodes⟩,_,_,rfl,⟨acts,rfl,hacts,tacts⟩,rfl⟩:=hT
 have hSm:Sm (rnR nodes acts).1∧(rnR nodes acts).2.1.length≤240:=by
  unfold rnR
  split
  ·exact⟨zOd,by simp⟩
  ·cases hk:inB nodes 1 5 with
   | false=>exact⟨zOd,by simp⟩
   | true=>
    rw[cond_true]
    split
    ·exact⟨zOd,by simp⟩
    ·refine⟨(zEN (zk.1 hk) acts).1.sm,?_⟩
     show(yM (yR nodes.toNat) acts).2.length≤240
     rw[zDN];omega
 have hz:=zHu zXE (es:=acts) (l:=1048576) (by omega)
 have hz3:=zFU (d:=acN) (k0:=5) (k:=1) (es:=acts) fun e he=>by unfold acN;omega
 have hz4:=zAd zY2 acts 1
 obtain⟨R,hR⟩:∃R,R=rnR nodes acts:=⟨_,rfl⟩
 rw[←hR] at hSm
 obtain⟨hSm,hl⟩:=hSm
 obtain⟨c1,c2⟩:=hSm.cN
 have z1:=zTt R.1.ns R.1.ss R.1.ws R.1.ds
 have z2:=zNh R.1.ns R.1.ss R.1.ws R.1.ds
 refine hW.vc [] _ _ ?_
 simp (config:={ maxSteps:=2000000 }) [-List.getD_eq_getElem?_getD,zJU,zDq,zDm,zAJ,za,yA,zAR,zDs,zCT,zBB,zAB,zBC,zAV,CL.pv,zBd,za,zE1,zWm,←hR,z1,z2,zHk,zGQ,zCG]
 clear hW
 intro h0
 have g1:acts.length≤1048576:=by have:=(hz.2.2 h0).1;omega
 repeat' (first | apply And.intro | intro _)
 all_goals omega
end
end Go.Proofs.YthogljppoiekaaaGreat
