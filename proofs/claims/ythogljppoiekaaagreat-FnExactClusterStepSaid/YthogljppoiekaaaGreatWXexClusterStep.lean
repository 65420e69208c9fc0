/-
  What FnExactClusterStep alone needs: contracts of functions and plain laws.
  Conditions: none.
-/
import Derived.Test.YthogljppoiekaaaGreatW45
import Derived.Test.YthogljppoiekaaaGreatW46
import Derived.Test.YthogljppoiekaaaGreatW48
set_option linter.unusedVariables false
set_option linter.unusedSimpArgs false
set_option linter.unusedSectionVars false
set_option maxRecDepth 100000
namespace Go.Proofs.YthogljppoiekaaaGreat
section
variable [zS]
def zPX(l:Int):List PV→Int
 | []=>l
 | e :: es=>if l - e.S.length < 0 then -1 else zPX (l - e.S.length) es
def zHQ(es:List PV)(l:Int):Int:=if l - es.length < 0 then -1 else zPX (l - es.length) es
def zCQ:zJ:=⟨[(.rd,.list .str),(.rd,.int .i64)],[.int .i64],true,fun ps=>0≤(nth ps 1).I,fun ps=>[.int .i64 (zHQ (nth ps 0).L (nth ps 1).I)],fun _=>[]⟩
theorem zMa:zh Tryz.prog 69 zCQ:=by
 refine zP [0,1,4,5] [.tmp 4] (zD (zB [])) mixed Tryz.func69 rfl (by decide) rfl (by decide) rfl ?_
 intro ps hT hpre W hW
 simp only[zCQ,TyA,Ty,Tys] at hT hpre
 obtain⟨_,_,rfl,⟨es,rfl,he,hes⟩,_,_,rfl,⟨l,rfl,hl⟩,rfl⟩:=hT
 simp only[zE,zF,yp] at hpre
 refine hW.vc [] _ _ ?_
 simp[-List.getD_eq_getElem?_getD,zCQ]
 intro h1
 rw[zHR] at hl
 rw[zC (by omega)]
 refine⟨fun h=>by simp[zHQ,h],fun h=>?_⟩
 refine hW.loopS _ _ _ [.sl 1 .dp (.int .i64),.sl 5 .dp (.int .i64)] (fun ys=>∃(x:Int) (i:Nat),ys=[.int .i64 x,.int .i64 i]∧0≤x∧x≤l∧i≤es.length∧zHQ es l=zPX x (es.drop i)) (fun ys=>es.length - (nth ys 1).I.toNat) ?_ ?_
 ·simp[-List.getD_eq_getElem?_getD,zCQ]
  exact⟨_,0,⟨rfl,rfl⟩,h,by omega,by simp,by simp[zHQ,Int.not_lt.2 h]⟩
 ·rintro ys ⟨x,i,rfl,h2,h3,h4,h5⟩
  refine hW.vc [] _ _ ?_
  simp[-List.getD_eq_getElem?_getD,zCQ]
  refine fun _=>⟨fun h6=>⟨h6,fun _ h7=>?_⟩,fun h6=>?_⟩
  ·rw[zG h6] at h5
   rw[zC (by omega),zC (by omega)]
   simp only[zPX] at h5
   refine⟨fun h8=>by rw[h5,if_pos h8],fun h8=>⟨⟨_,i+1,⟨rfl,by omega⟩,h8,by omega,by omega,?_⟩,by omega⟩⟩
   rw[h5,if_neg (by omega)]
  ·rw[List.drop_eq_nil_of_le h6] at h5
   exact h5.symm
theorem zD1{out es:List PV}{i:Nat}{x:PV}(h1:out.take i=es.take i)(h2:out.length=es.length)(h3:i < es.length)(h4:x=nth es i):(out.set i x).take (i+1)=es.take (i+1):=by
 rw[zd h3,←h1,zd (by simp;omega),List.take_set_of_le (Nat.le_refl _),zHX (by simp;omega),List.getElem_set_self,h4]
def zCN:zJ:=⟨[(.rd,.list .str)],[.list .str],true,fun ps=>(nth ps 0).L.length≤1048576,fun ps=>[.list (nth ps 0).L],fun _=>[]⟩
theorem zMX:zh Tryz.prog 74 zCN:=by
 refine zP [0,2,3,4] [.tmp 2] (zD (zB [])) mixed Tryz.func74 rfl (by decide) rfl (by decide) rfl ?_
 intro ps hT hpre W hW
 simp only[zCN,TyA,Ty,Tys] at hT hpre
 obtain⟨_,_,rfl,⟨es,rfl,he,hes⟩,rfl⟩:=hT
 simp only[zE,zAA] at hpre
 refine hW.vc [] _ _ ?_
 simp[-List.getD_eq_getElem?_getD,zCN]
 refine fun h1=>⟨by omega,hW.loopS _ _ _ [.sl 3 .dp (.list .str),.sl 4 .dp (.int .i64)] (fun ys=>∃(out:List PV) (i:Nat),ys=[.list out,.int .i64 i]∧i≤es.length∧out.length=es.length∧out.take i=es.take i) (fun ys=>es.length - (nth ys 1).I.toNat) ?_ ?_⟩
 ·simp[-List.getD_eq_getElem?_getD,zCN]
  exact⟨_,0,⟨rfl,rfl⟩,by simp,by simp,by simp⟩
 ·rintro ys ⟨out,i,rfl,h2,h3,h4⟩
  refine hW.vc [] _ _ ?_
  simp[-List.getD_eq_getElem?_getD,zCN]
  refine fun _=>⟨fun h5=>⟨h5,fun h6=>⟨by omega,?_⟩⟩,fun h5=>?_⟩
  ·obtain⟨x,hx,_⟩:=hes _ (zb h5)
   rw[zC (by omega)]
   refine⟨⟨_,i+1,⟨rfl,by omega⟩,by omega,by simp[h3],zD1 h4 h3 h5 (by rw[hx,zEW])⟩,by omega⟩
  ·rw[List.take_of_length_le (by omega),List.take_of_length_le (by omega)] at h4
   exact h4
theorem zIM:zh Tryz.prog 55 zM:=by
 refine zP [0,1,4,5] [.tmp 4] (zD (zB [])) mixed Tryz.func55 rfl (by decide) rfl (by decide) rfl ?_
 intro ps hT hpre W hW
 simp only[zM,TyA,Ty,Tys] at hT hpre
 obtain⟨_,_,rfl,⟨es,rfl,he,hes⟩,_,_,rfl,⟨es2,rfl,he2,hes2⟩,rfl⟩:=hT
 refine hW.vc [(6,[],tkN [0,1,2,3,4,5,6,7,8] .done)] _ _ ?_
 simp[-List.getD_eq_getElem?_getD,zM]
 refine fun h1 h2=>⟨fun h3=>zAX (by omega),fun h3=>?_⟩
 refine hW.loopS _ _ _ [.sl 5 .dp (.int .i64)] (fun ys=>∃i:Nat,ys=[.int .i64 i]∧i≤es.length∧eqL (fun x y=>x.S == y.S) es es2=eqL (fun x y=>x.S == y.S) (es.drop i) (es2.drop i)) (fun ys=>es.length - (nth ys 0).I.toNat) ?_ ?_
 ·simp[-List.getD_eq_getElem?_getD,zM]
  exact⟨0,rfl,by simp,by simp⟩
 ·rintro ys ⟨i,rfl,h4,h5⟩
  refine hW.vc [(6,[],tkN [0,1,2,3,4,5,6,7,8] .done)] _ _ ?_
  simp[-List.getD_eq_getElem?_getD,zM]
  refine fun _=>⟨fun h6=>⟨by decide +kernel,h6,fun _=>⟨by omega,fun _=>?_⟩⟩,fun h6=>?_⟩
  ·rw[zG h6,zG (by omega:i < es2.length),eqL] at h5
   rw[zC (by omega)]
   refine⟨fun h7=>by rw[h5];simp[h7],fun h7=>⟨⟨i+1,by omega,by omega,by rw[h5];simp[h7]⟩,by omega⟩⟩
  ·rw[h5,List.drop_eq_nil_of_le h6,List.drop_eq_nil_of_le (by omega)];rfl
end
section
variable [zS]
def zRi(n:Nat):List UInt8:=if h:n=0 then [] else zRi (n / 10)++[UInt8.ofNat (48+n % 10)]
termination_by n
decreasing_by omega
def zES(k:Int):List UInt8:=if k≤0 then [109,48] else 109 :: zRi k.toNat
def zZ:zJ:=⟨[(.rd,.int .i64)],[.str],true,fun ps=>(nth ps 0).I≤1073741824,fun ps=>[.str (zES (nth ps 0).I)],fun _=>[]⟩
theorem zA4:zh Tryz.prog 57 zZ:=by
 refine zP [0,2,3] [.tmp 2] (zD (zB [])) mixed Tryz.func57 rfl (by decide) rfl (by decide) rfl ?_
 intro ps hT hpre W hW
 simp only[zZ,TyA,Ty,Tys] at hT hpre
 obtain⟨_,_,rfl,⟨k,rfl,hk⟩,rfl⟩:=hT
 simp only[zE,yp] at hpre
 rw[zHR] at hk
 refine hW.vc [] _ _ ?_
 simp[-List.getD_eq_getElem?_getD,zZ]
 refine⟨fun h=>by rw[zES,if_pos h],fun h=>hW.loopS _ _ _ [.sl 3 .dp .str,.sl 0 .dp (.int .i64)] (fun ys=>∃(out:List UInt8) (x:Int),ys=[.str out,.int .i64 x]∧0≤x∧x≤k∧out.length+x≤k∧zRi k.toNat=zRi x.toNat++out) (fun ys=>(nth ys 1).I.toNat) ?_ ?_⟩
 ·simp[-List.getD_eq_getElem?_getD,zZ]
  exact⟨_,_,⟨rfl,rfl⟩,by omega,by omega,by simp,by simp⟩
 ·rintro ys ⟨out,x,rfl,h2,h3,h4,h5⟩
  refine hW.vc [] _ _ ?_
  simp[-List.getD_eq_getElem?_getD,zZ,zFD]
  obtain⟨m,rfl⟩:=Int.eq_ofNat_of_zero_le h2
  have e1:((m:Int)).tmod 10=((m % 10:Nat):Int):=rfl
  have e2:((m:Int)).tdiv 10=((m / 10:Nat):Int):=rfl
  rw[e1,e2,zC (n:=48+((m % 10:Nat):Int)) (by omega),zC (n:=((m / 10:Nat):Int)) (by omega),zVM (by omega)]
  refine⟨fun h6=>⟨by omega,⟨_,_,⟨rfl,rfl⟩,by omega,by omega,by simp only[List.length_cons];omega,?_⟩,by omega⟩,fun h6=>⟨by omega,?_⟩⟩
  ·have h7:m≠0:=by omega
   have e3:(48+((m % 10:Nat):Int)).toNat=48+m % 10:=by omega
   rw[h5,e3,Int.toNat_natCast,Int.toNat_natCast,zRi,dif_neg h7,List.append_assoc];rfl
  ·have h7:m=0:=by omega
   subst h7
   rw[zES,if_neg (by omega),h5]
   simp[zRi]
def zCa(k:Int):Nat→List PV
 | 0=>[]
 | n+1=>.str (zES k) :: zCa (k+1) n
theorem zDQ:∀(n:Nat) (k:Int),(zCa k n).length=n
 | 0,_=>rfl
 | n+1,k=>by simp[zCa,zDQ n]
theorem zFm:∀(n:Nat) (k:Int),zCa k (n+1)=zCa k n++[.str (zES (k+n))]
 | 0,k=>by simp[zCa]
 | n+1,k=>by
  rw[zCa,zFm n (k+1),zCa,List.cons_append]
  simp only[List.cons.injEq,true_and,List.append_cancel_left_eq,and_true,PV.str.injEq]
  congr 1;omega
theorem zBY{m es:List PV}{i:Nat}{x:PV}{m':List PV}(h1:m.length=i)(h2:i < es.length)(h3:m'=m++[x]):(m++es.drop i).set i x=m'++es.drop (i+1):=by
 subst h3
 rw[List.set_append_right _ _ (by omega),h1,Nat.sub_self,zG h2,List.set_cons_zero,List.append_assoc,List.singleton_append]
def zAK:zJ:=⟨[(.mt,.list .str),(.rd,.int .i64)],[.int .i64],true,fun ps=>0≤(nth ps 1).I∧(nth ps 1).I+(nth ps 0).L.length≤1073741824,fun ps=>[.int .i64 ((nth ps 1).I+(nth ps 0).L.length)],fun ps=>[.list (zCa (nth ps 1).I (nth ps 0).L.length)]⟩
theorem zF6:zh Tryz.prog 61 zAK:=by
 refine zP [0,1,4,5] [.tmp 4] (zA (cs:=[]) zA4 (zD (zB []))) mixed Tryz.func61 rfl (by decide) rfl (by decide) rfl ?_
 intro ps hT hpre W hW
 simp only[zAK,TyA,Ty,Tys] at hT hpre
 obtain⟨_,_,rfl,⟨es,rfl,hes,tes⟩,_,_,rfl,⟨k,rfl,hk⟩,rfl⟩:=hT
 simp only[zE,zF,yp,zAA] at hpre
 refine hW.vc [] _ _ ?_
 simp[-List.getD_eq_getElem?_getD,zAK,zZ]
 refine hW.loopS _ _ _ [.ar 0 .str,.sl 1 .dp (.int .i64),.sl 5 .dp (.int .i64)] (fun ys=>∃i:Nat,ys=[.list (zCa k i++es.drop i),.int .i64 (k+i),.int .i64 i]∧i≤es.length) (fun ys=>es.length - (nth ys 2).I.toNat) ?_ ?_
 ·simp[-List.getD_eq_getElem?_getD,zAK,zZ]
  exact⟨0,⟨by simp[zCa],by omega,rfl⟩,by omega⟩
 ·rintro ys ⟨i,rfl,h2⟩
  refine hW.vc [] _ _ ?_
  simp[-List.getD_eq_getElem?_getD,zAK,zZ]
  rw[zDQ]
  refine fun _=>⟨fun h3=>⟨by omega,by omega,by omega,⟨i+1,⟨?_,by rw[zC (by omega)];omega,by rw[zC (by omega)];omega⟩,by omega⟩,by rw[zC (by omega)];omega⟩,fun h3=>?_⟩
  ·exact zBY (zDQ i k) (by omega) (zFm i k)
  ·have:i=es.length:=by omega
   subst this
   simp
def zn(f:Int→PV→Bool)(d:Int)(k:Int):List PV→Int
 | []=>k
 | e :: es=>if f k e then zn f d (k+d) es else -1
theorem zI4{f:Int→PV→Bool}{d:Int}(hd:0≤d):∀{es:List PV} {k:Int},0≤k→zn f d k es < 0→zn f d k es=-1
 | [],k,hk,h=>by simp only[zn] at h;omega
 | e :: es,k,hk,h=>by
  simp only[zn] at h ⊢
  split
  ·rename_i h1
   rw[if_pos h1] at h
   exact zI4 hd (by omega) h
  ·rfl
def zDS(k:Int)(e:PV):Bool:=e.S == zES k
theorem zBy{f:Int→PV→Bool}{d:Int}{m:Int→Nat→List PV}(h0:∀k,m k 0=[])(h1:∀k n,∃x,m k (n+1)=x :: m (k+d) n∧f k x=true):∀(n:Nat) (k:Int),zn f d k (m k n)=k+d*n
 | 0,k=>by simp[h0,zn]
 | n+1,k=>by
  obtain⟨x,h2,h3⟩:=h1 k n
  rw[h2,zn,if_pos h3,zBy h0 h1 n,Int.natCast_add,Int.mul_add];omega
theorem zJu(n:Nat)(k:Int):zn zDS 1 k (zCa k n)=k+n:=by
 rw[zBy (m:=zCa) (fun _=>rfl) (fun k n=>⟨_,rfl,by simp[zDS,zEW]⟩),Int.one_mul]
def zAL:zJ:=⟨[(.rd,.list .str),(.rd,.int .i64)],[.int .i64],true,fun ps=>0≤(nth ps 1).I∧(nth ps 1).I+(nth ps 0).L.length≤1073741824,fun ps=>[.int .i64 (zn zDS 1 (nth ps 1).I (nth ps 0).L)],fun _=>[]⟩
theorem zF9:zh Tryz.prog 65 zAL:=by
 refine zP [0,1,4,5] [.tmp 4] (zA (cs:=[]) zA4 (zD (zB []))) mixed Tryz.func65 rfl (by decide) rfl (by decide) rfl ?_
 intro ps hT hpre W hW
 simp only[zAL,TyA,Ty,Tys] at hT hpre
 obtain⟨_,_,rfl,⟨es,rfl,hes,tes⟩,_,_,rfl,⟨k,rfl,hk⟩,rfl⟩:=hT
 simp only[zE,zF,yp,zAA] at hpre
 refine hW.vc [(4,[],tkN [0,1,2,3,4] (alS 5 (tkN [6] .done)))] _ _ ?_
 simp[-List.getD_eq_getElem?_getD,zAL,zZ]
 refine hW.loopS _ _ _ [.sl 1 .dp (.int .i64),.sl 5 .dp (.int .i64)] (fun ys=>∃i:Nat,ys=[.int .i64 (k+i),.int .i64 i]∧i≤es.length∧zn zDS 1 k es=zn zDS 1 (k+i) (es.drop i)) (fun ys=>es.length - (nth ys 1).I.toNat) ?_ ?_
 ·simp[-List.getD_eq_getElem?_getD,zAL,zZ]
  exact⟨0,⟨by omega,rfl⟩,by omega,by simp⟩
 ·rintro ys ⟨i,rfl,h2,h3⟩
  refine hW.vc [(4,[],tkN [0,1,2,3,4] (alS 5 (tkN [6] .done)))] _ _ ?_
  simp[-List.getD_eq_getElem?_getD,zAL,zZ]
  refine fun _=>⟨fun h4=>⟨by decide +kernel,h4,fun _=>⟨by omega,fun h5=>?_,fun h5=>?_⟩⟩,fun h4=>?_⟩
  ·rw[h3,zG h4,zn,if_neg (by simpa[zDS] using h5)]
  ·rw[zC (by omega),zC (by omega)]
   refine⟨⟨i+1,⟨by omega,by omega⟩,by omega,?_⟩,by omega⟩
   rw[h3,zG h4,zn,if_pos (by simpa[zDS] using h5),Int.natCast_add,←Int.add_assoc];rfl
  ·rw[h3,List.drop_eq_nil_of_le h4];rfl
def zC8(k:Int):Nat→List PV
 | 0=>[]
 | n+1=>.agg [.int .i64 k,.str (zES (k+1))] :: zC8 (k+2) n
theorem zBM:∀(n:Nat) (k:Int),(zC8 k n).length=n
 | 0,_=>rfl
 | n+1,k=>by simp[zC8,zBM n]
theorem zFn:∀(n:Nat) (k:Int),zC8 k (n+1)=zC8 k n++[.agg [.int .i64 (k+2*n),.str (zES (k+2*n+1))]]
 | 0,k=>by simp[zC8]
 | n+1,k=>by
  rw[zC8,zFn n (k+2),zC8,List.cons_append]
  have e:k+2+2*(n:Int)=k+2*((n+1:Nat):Int):=by omega
  rw[e]
def zBN(k:Int)(e:PV):Bool:=(nth e.A 0).I == k&&(nth e.A 1).S == zES (k+1)
theorem zFr(n:Nat)(k:Int):zn zBN 2 k (zC8 k n)=k+2*n:=by
 rw[zBy (m:=zC8) (fun _=>rfl) (fun k n=>⟨_,rfl,by simp[zBN,zEW,yp,zBE,zE,zF]⟩)]
end
section
variable [zS]
theorem zPW:∀{es:List PV} {l:Int},0≤l→zPX l es≤l∧(-1≤zPX l es)
 | [],l,h=>⟨Int.le_refl _,by simp[zPX];omega⟩
 | e :: es,l,h=>by
  simp only[zPX]
  split
  ·exact⟨by omega,by omega⟩
  ·have:=zPW (es:=es) (l:=l - e.S.length) (by omega)
   omega
theorem zM6{es:List PV}{l:Int}(h:0≤l):zHQ es l≤l∧-1≤zHQ es l∧(0≤zHQ es l→(es.length:Int)≤l):=by
 unfold zHQ
 split
 ·omega
 ·have:=zPW (es:=es) (l:=l - es.length) (by omega)
  omega
end
section
variable [zS]
def szG(f:PV→Int)(l:Int):List PV→Int
 | []=>l
 | e :: es=>if l - f e < 0 then -1 else szG f (l - f e) es
theorem zPY{f:PV→Int}(hf:∀e,0≤f e):∀{es:List PV} {l:Int},0≤l→szG f l es≤l∧-1≤szG f l es
 | [],l,h=>⟨Int.le_refl _,by simp[szG];omega⟩
 | e :: es,l,h=>by
  have:=hf e
  simp only[szG]
  split
  ·exact⟨by omega,by omega⟩
  ·have:=zPY hf (es:=es) (l:=l - f e) (by omega)
   omega
def zLo(f:PV→Int)(es:List PV)(l:Int):Int:=if l - es.length < 0 then -1 else szG f (l - es.length) es
theorem zGm{f:PV→Int}(hf:∀e,0≤f e){es:List PV}{l:Int}(h:0≤l):zLo f es l≤l∧-1≤zLo f es l∧(0≤zLo f es l→(es.length:Int)≤l):=by
 unfold zLo
 split
 ·omega
 ·have:=zPY hf (es:=es) (l:=l - es.length) (by omega)
  omega
def zFH(l n:Int):Int:=if l - n < 0 then -1 else l - n
def zEb(e:PV):Int:=(nth e.A 1).S.length
theorem zCZ(e:PV):0≤zEb e:=by unfold zEb;omega
theorem zUT{e:PV}(h:∃qs,e=.agg qs∧∃p r,qs=p :: r∧(∃n,p=.int .i64 n∧inR .i64 n)∧∃p r',r=p :: r'∧(∃l,p=.str l∧l.length≤LIM)∧r'=[]):PV.agg [.int .i64 (nth e.A 0).I,.str (nth e.A 1).S]=e:=by
 obtain⟨_,rfl,_,_,rfl,⟨n,rfl,_⟩,_,_,rfl,⟨l,rfl,_⟩,rfl⟩:=h
 rfl
end
section
variable [zS]
def eqB(x y:PV):Bool:=x.I == y.I
theorem zGQ(es:List PV):eqL eqB es es=true:=y9 fun _=>by simp[eqB]
end
section
variable [zS]
def zDp:zJ:=⟨[(.rd,.agg [.int .i64,.str]),(.rd,.int .i64)],[.int .i64],true,fun ps=>0≤(nth ps 1).I,fun ps=>[.int .i64 (zFH (nth ps 1).I (nth (nth ps 0).A 1).S.length)],fun _=>[]⟩
theorem zQE:zh Tryz.prog 197 zDp:=by
 refine zP [0,1,2,4] [.tmp 4] (zD (zB [])) mixed Tryz.func197 rfl (by decide) rfl (by decide) rfl ?_
 intro ps hT hpre W hW
 simp only[zDp,TyA,Ty,Tys] at hT hpre
 obtain⟨_,_,rfl,⟨_,rfl,_,_,rfl,⟨y,rfl,hy⟩,_,_,rfl,⟨c,rfl,hc⟩,rfl⟩,_,_,rfl,⟨l,rfl,hl⟩,rfl⟩:=hT
 simp only[zE,zF,yp] at hpre
 refine hW.vc [] _ _ ?_
 simp[-List.getD_eq_getElem?_getD,zDp]
 intro h1
 rw[zHR] at hl
 rw[zC (by omega)]
 exact⟨fun h=>by rw[zFH,if_pos h],fun h=>by rw[zFH,if_neg (Int.not_lt.2 h)]⟩
def zCS:zJ:=⟨[(.rd,.list (.agg [.int .i64,.str])),(.rd,.int .i64)],[.int .i64],true,fun ps=>0≤(nth ps 1).I,fun ps=>[.int .i64 (zLo zEb (nth ps 0).L (nth ps 1).I)],fun _=>[]⟩
theorem zJi:zh Tryz.prog 156 zCS:=by
 refine zP [0,1,4,5] [.tmp 4] (zA (cs:=[]) zQE (zD (zB []))) mixed Tryz.func156 rfl (by decide) rfl (by decide) rfl ?_
 intro ps hT hpre W hW
 simp only[zCS,TyA,Ty,Tys] at hT hpre
 obtain⟨_,_,rfl,⟨es,rfl,hes,tes⟩,_,_,rfl,⟨l,rfl,hl⟩,rfl⟩:=hT
 simp only[zE,zF,yp] at hpre
 refine hW.vc [] _ _ ?_
 simp[-List.getD_eq_getElem?_getD,zCS,zDp]
 intro h1
 rw[zHR] at hl
 rw[zC (by omega)]
 refine⟨fun h=>by simp[zLo,h],fun h=>?_⟩
 refine hW.loopS _ _ _ [.sl 1 .dp (.int .i64),.sl 5 .dp (.int .i64)] (fun ys=>∃(x:Int) (i:Nat),ys=[.int .i64 x,.int .i64 i]∧0≤x∧x≤l∧i≤es.length∧zLo zEb es l=szG zEb x (es.drop i)) (fun ys=>es.length - (nth ys 1).I.toNat) ?_ ?_
 ·simp[-List.getD_eq_getElem?_getD,zCS,zDp]
  exact⟨_,0,⟨rfl,rfl⟩,h,by omega,by simp,by simp[zLo,Int.not_lt.2 h]⟩
 ·rintro ys ⟨x,i,rfl,h2,h3,h4,h5⟩
  refine hW.vc [] _ _ ?_
  simp[-List.getD_eq_getElem?_getD,zCS,zDp]
  refine fun _=>⟨fun h6=>⟨h6,fun _ _ _=>⟨h2,?_⟩⟩,fun h6=>by rw[h5,List.drop_eq_nil_of_le h6];rfl⟩
  have h7:zEb (nth es i)=(nth (nth es i).A 1).S.length:=rfl
  rw[zG h6,szG,h7] at h5
  by_cases h8:x - ((nth (nth es i).A 1).S.length:Int) < 0
  ·rw[if_pos h8] at h5
   rw[zFH,if_pos h8]
   exact⟨fun _=>h5.symm,fun h=>by omega⟩
  ·rw[if_neg h8] at h5
   rw[zFH,if_neg h8]
   rw[zC (by omega)]
   exact⟨fun h=>absurd h h8,fun _=>⟨⟨_,i+1,⟨rfl,by omega⟩,by omega,by omega,by omega,h5⟩,by omega⟩⟩
def zDl:zJ:=⟨[(.rd,.agg [.int .i64,.str])],[.agg [.int .i64,.str]],true,fun _=>True,fun ps=>[nth ps 0],fun _=>[]⟩
theorem zQA:zh Tryz.prog 204 zDl:=by
 refine zP [0,1,2,3] [.cell 2 109] (zD (zB [])) mixed Tryz.func204 rfl (by decide) rfl (by decide) rfl ?_
 intro ps hT hpre W hW
 simp only[zDl,TyA,Ty,Tys] at hT hpre
 obtain⟨_,_,rfl,⟨_,rfl,_,_,rfl,⟨y,rfl,hy⟩,_,_,rfl,⟨c,rfl,hc⟩,rfl⟩,rfl⟩:=hT
 refine hW.vc [] _ _ ?_
 simp[-List.getD_eq_getElem?_getD,zDl]
def zCP:zJ:=⟨[(.rd,.list (.agg [.int .i64,.str]))],[.list (.agg [.int .i64,.str])],true,fun ps=>(nth ps 0).L.length≤1048576,fun ps=>[.list (nth ps 0).L],fun _=>[]⟩
theorem zJh:zh Tryz.prog 162 zCP:=by
 refine zP [0,2,3,4] [.tmp 2] (zA (cs:=[]) zQA (zD (zB []))) mixed Tryz.func162 rfl (by decide) rfl (by decide) rfl ?_
 intro ps hT hpre W hW
 simp only[zCP,TyA,Ty,Tys] at hT hpre
 obtain⟨_,_,rfl,⟨es,rfl,hes,tes⟩,rfl⟩:=hT
 simp only[zE,zAA] at hpre
 refine hW.vc [] _ _ ?_
 simp[-List.getD_eq_getElem?_getD,zCP,zDl]
 refine fun h1=>⟨by omega,hW.loopS _ _ _ [.sl 3 .dp (.list (.agg [.int .i64,.str])),.sl 4 .dp (.int .i64)] (fun ys=>∃(out:List PV) (i:Nat),ys=[.list out,.int .i64 i]∧i≤es.length∧out.length=es.length∧out.take i=es.take i) (fun ys=>es.length - (nth ys 1).I.toNat) ?_ ?_⟩
 ·simp[-List.getD_eq_getElem?_getD,zCP,zDl]
  exact⟨_,0,⟨rfl,rfl⟩,by simp,by simp,by simp⟩
 ·rintro ys ⟨out,i,rfl,h2,h3,h4⟩
  refine hW.vc [] _ _ ?_
  simp[-List.getD_eq_getElem?_getD,zCP,zDl]
  refine fun _=>⟨fun h5=>⟨h5,fun _ _ _=>⟨by omega,?_⟩⟩,fun h5=>?_⟩
  ·rw[zUT (tes _ (zb h5)),zC (by omega)]
   refine⟨⟨_,i+1,⟨rfl,by omega⟩,by omega,by simp[h3],zD1 h4 h3 h5 rfl⟩,by omega⟩
  ·rw[List.take_of_length_le (by omega),List.take_of_length_le (by omega)] at h4
   exact h4
def zBt:zJ:=⟨[(.rd,.agg [.int .i64,.str]),(.rd,.agg [.int .i64,.str])],[.bool],true,fun _=>True,fun ps=>[.bool (zEP (nth ps 0).A (nth ps 1).A)],fun _=>[]⟩
theorem zLG:zh Tryz.prog 196 zBt:=by
 refine zP [0,1,2,3,4] [.tmp 4] (zD (zB [])) mixed Tryz.func196 rfl (by decide) rfl (by decide) rfl ?_
 intro ps hT hpre W hW
 simp only[zBt,TyA,Ty,Tys] at hT hpre
 obtain⟨_,_,rfl,⟨_,rfl,_,_,rfl,⟨y,rfl,hy⟩,_,_,rfl,⟨c,rfl,hc⟩,rfl⟩,_,_,rfl,⟨_,rfl,_,_,rfl,⟨y',rfl,hy'⟩,_,_,rfl,⟨c',rfl,hc'⟩,rfl⟩,rfl⟩:=hT
 refine hW.vc [] _ _ ?_
 simp[-List.getD_eq_getElem?_getD,zBt]
 simp only[zEP,zE,zF,yp,zEW]
 refine⟨fun h1=>by simp[h1],fun h1=>⟨fun h2=>by simp[h2],fun h2=>by simp[h1,h2]⟩⟩
def zm:zJ:=⟨[(.rd,.list (.agg [.int .i64,.str])),(.rd,.list (.agg [.int .i64,.str]))],[.bool],true,fun _=>True,fun ps=>[.bool (eqL ze (nth ps 0).L (nth ps 1).L)],fun _=>[]⟩
theorem zFq:zh Tryz.prog 155 zm:=by
 refine zP [0,1,4,5] [.tmp 4] (zA (cs:=[]) zLG (zD (zB []))) mixed Tryz.func155 rfl (by decide) rfl (by decide) rfl ?_
 intro ps hT hpre W hW
 simp only[zm,TyA,Ty,Tys] at hT hpre
 obtain⟨_,_,rfl,⟨es,rfl,hes,tes⟩,_,_,rfl,⟨es2,rfl,hes2,tes2⟩,rfl⟩:=hT
 refine hW.vc [(6,[],tkN [0,1,2,3,4,5,6,7] (alS 8 (tkN [9] .done)))] _ _ ?_
 simp[-List.getD_eq_getElem?_getD,zm,zBt]
 refine fun h1 h2=>⟨fun h3=>zAX (by omega),fun h3=>?_⟩
 refine hW.loopS _ _ _ [.sl 5 .dp (.int .i64)] (fun ys=>∃i:Nat,ys=[.int .i64 i]∧i≤es.length∧eqL ze es es2=eqL ze (es.drop i) (es2.drop i)) (fun ys=>es.length - (nth ys 0).I.toNat) ?_ ?_
 ·simp[-List.getD_eq_getElem?_getD,zm,zBt]
  exact⟨0,rfl,by simp,by simp⟩
 ·rintro ys ⟨i,rfl,h4,h5⟩
  refine hW.vc [(6,[],tkN [0,1,2,3,4,5,6,7] (alS 8 (tkN [9] .done)))] _ _ ?_
  simp[-List.getD_eq_getElem?_getD,zm,zBt]
  refine fun _=>⟨fun h6=>⟨by decide +kernel,h6,fun _ _ _=>⟨by omega,fun _ _ _=>?_⟩⟩,fun h6=>?_⟩
  ·rw[zG h6,zG (by omega:i < es2.length),eqL] at h5
   have h8:zEP [PV.int IntKind.i64 (nth (nth es i).A 0).I,PV.str (nth (nth es i).A 1).S] [PV.int IntKind.i64 (nth (nth es2 i).A 0).I,PV.str (nth (nth es2 i).A 1).S]=ze (nth es i) (nth es2 i):=rfl
   rw[zC (by omega),h8]
   refine⟨fun h7=>by rw[h5];simp[h7],fun h7=>⟨⟨i+1,by omega,by omega,by rw[h5];simp[h7]⟩,by omega⟩⟩
  ·rw[h5,List.drop_eq_nil_of_le h6,List.drop_eq_nil_of_le (by omega)];rfl
def zs:zJ:=⟨[(.mt,.list (.agg [.int .i64,.str])),(.rd,.int .i64)],[.int .i64],true,fun ps=>0≤(nth ps 1).I∧(nth ps 1).I+2*(nth ps 0).L.length≤1073741823,fun ps=>[.int .i64 ((nth ps 1).I+2*(nth ps 0).L.length)],fun ps=>[.list (zC8 (nth ps 1).I (nth ps 0).L.length)]⟩
theorem zDu:zh Tryz.prog 103 zs:=by
 refine zP [0,1,4,5] [.tmp 4] (zA (cs:=[]) zA4 (zD (zB []))) mixed Tryz.func103 rfl (by decide) rfl (by decide) rfl ?_
 intro ps hT hpre W hW
 simp only[zs,TyA,Ty,Tys] at hT hpre
 obtain⟨_,_,rfl,⟨es,rfl,hes,tes⟩,_,_,rfl,⟨k,rfl,hk⟩,rfl⟩:=hT
 simp only[zE,zF,yp,zAA] at hpre
 refine hW.vc [] _ _ ?_
 simp[-List.getD_eq_getElem?_getD,zs,zZ]
 refine hW.loopS _ _ _ [.ar 0 (.agg [.int .i64,.str]),.sl 1 .dp (.int .i64),.sl 5 .dp (.int .i64)] (fun ys=>∃i:Nat,ys=[.list (zC8 k i++es.drop i),.int .i64 (k+2*i),.int .i64 i]∧i≤es.length) (fun ys=>es.length - (nth ys 2).I.toNat) ?_ ?_
 ·simp[-List.getD_eq_getElem?_getD,zs,zZ]
  exact⟨0,⟨by simp[zC8],by omega,rfl⟩,by omega⟩
 ·rintro ys ⟨i,rfl,h2⟩
  refine hW.vc [] _ _ ?_
  simp[-List.getD_eq_getElem?_getD,zs,zZ]
  rw[zBM]
  have e1:IntKind.i64.wrap (k+2*(i:Int)+1)=k+2*i+1:=zC (by omega)
  rw[e1,zC (n:=k+2*(i:Int)+1+1) (by omega),zC (n:=(i:Int)+1) (by omega)]
  refine fun _=>⟨fun h3=>⟨by omega,by omega,by omega,by omega,by omega,⟨i+1,⟨?_,by omega,by omega⟩,by omega⟩,by omega⟩,fun h3=>?_⟩
  ·rw[zEc (by rw[List.length_append,zBM,List.length_drop];omega),zBE,zE]
   exact zBY (zBM i k) (by omega) (zFn i k)
  ·have:i=es.length:=by omega
   subst this
   simp
def yB:zJ:=⟨[(.rd,.list (.agg [.int .i64,.str])),(.rd,.int .i64)],[.int .i64],true,fun ps=>0≤(nth ps 1).I∧(nth ps 1).I+2*(nth ps 0).L.length≤1073741823,fun ps=>[.int .i64 (zn zBN 2 (nth ps 1).I (nth ps 0).L)],fun _=>[]⟩
theorem zDv:zh Tryz.prog 104 yB:=by
 refine zP [0,1,4,5] [.tmp 4] (zA (cs:=[]) zA4 (zD (zB []))) mixed Tryz.func104 rfl (by decide) rfl (by decide) rfl ?_
 intro ps hT hpre W hW
 simp only[yB,TyA,Ty,Tys] at hT hpre
 obtain⟨_,_,rfl,⟨es,rfl,hes,tes⟩,_,_,rfl,⟨k,rfl,hk⟩,rfl⟩:=hT
 simp only[zE,zF,yp,zAA] at hpre
 refine hW.vc [(7,[],tkN [0,1,2,3,4,5] (alS 6 (tkN [7] .done)))] _ _ ?_
 simp[-List.getD_eq_getElem?_getD,yB,zZ]
 refine hW.loopS _ _ _ [.sl 1 .dp (.int .i64),.sl 5 .dp (.int .i64)] (fun ys=>∃i:Nat,ys=[.int .i64 (k+2*i),.int .i64 i]∧i≤es.length∧zn zBN 2 k es=zn zBN 2 (k+2*i) (es.drop i)) (fun ys=>es.length - (nth ys 1).I.toNat) ?_ ?_
 ·simp[-List.getD_eq_getElem?_getD,yB,zZ]
  exact⟨0,⟨by omega,rfl⟩,by omega,by simp⟩
 ·rintro ys ⟨i,rfl,h2,h3⟩
  refine hW.vc [(7,[],tkN [0,1,2,3,4,5] (alS 6 (tkN [7] .done)))] _ _ ?_
  simp[-List.getD_eq_getElem?_getD,yB,zZ]
  have e1:IntKind.i64.wrap (k+2*(i:Int)+1)=k+2*i+1:=zC (by omega)
  rw[e1,zC (n:=k+2*(i:Int)+1+1) (by omega),zC (n:=(i:Int)+1) (by omega)]
  refine fun _=>⟨fun h4=>⟨h4,fun _=>⟨fun h5=>?_,fun h5=>⟨by decide +kernel,h4,fun _=>⟨by omega,fun h6=>?_,fun h6=>⟨⟨i+1,⟨by omega,by omega⟩,by omega,?_⟩,by omega⟩⟩⟩⟩⟩,fun h4=>?_⟩
  ·rw[h3,zG h4,zn,if_neg (by simp[zBN,h5])]
  ·rw[h3,zG h4,zn,if_neg (by simp[zBN,h6])]
  ·have e2:k+2*((i+1:Nat):Int)=k+2*i+2:=by omega
   rw[h3,zG h4,zn,if_pos (by simp[zBN,h5,h6]),e2]
  ·rw[h3,List.drop_eq_nil_of_le h4];rfl
def zHf:zJ:=⟨[(.rd,.list (.int .i64)),(.rd,.int .i64)],[.int .i64],true,fun ps=>0≤(nth ps 1).I,fun ps=>[.int .i64 (zFH (nth ps 1).I (nth ps 0).L.length)],fun _=>[]⟩
theorem zSI:zh Tryz.prog 157 zHf:=by
 refine zP [0,1,4] [.tmp 4] (zD (zB [])) mixed Tryz.func157 rfl (by decide) rfl (by decide) rfl ?_
 intro ps hT hpre W hW
 simp only[zHf,TyA,Ty,Tys] at hT hpre
 obtain⟨_,_,rfl,⟨es,rfl,hes,tes⟩,_,_,rfl,⟨l,rfl,hl⟩,rfl⟩:=hT
 simp only[zE,zF,yp] at hpre
 refine hW.vc [] _ _ ?_
 simp[-List.getD_eq_getElem?_getD,zHf]
 intro h1
 rw[zHR] at hl
 rw[zC (by omega)]
 exact⟨fun h=>by rw[zFH,if_pos h],fun h=>by rw[zFH,if_neg (Int.not_lt.2 h)]⟩
def zE3:zJ:=⟨[(.rd,.list (.int .i64))],[.list (.int .i64)],true,fun ps=>(nth ps 0).L.length≤1048576,fun ps=>[.list (nth ps 0).L],fun _=>[]⟩
theorem zSG:zh Tryz.prog 163 zE3:=by
 refine zP [0,2,3,4] [.tmp 2] (zD (zB [])) mixed Tryz.func163 rfl (by decide) rfl (by decide) rfl ?_
 intro ps hT hpre W hW
 simp only[zE3,TyA,Ty,Tys] at hT hpre
 obtain⟨_,_,rfl,⟨es,rfl,hes,tes⟩,rfl⟩:=hT
 simp only[zE,zAA] at hpre
 refine hW.vc [] _ _ ?_
 simp[-List.getD_eq_getElem?_getD,zE3]
 refine fun h1=>⟨by omega,hW.loopS _ _ _ [.sl 3 .dp (.list (.int .i64)),.sl 4 .dp (.int .i64)] (fun ys=>∃(out:List PV) (i:Nat),ys=[.list out,.int .i64 i]∧i≤es.length∧out.length=es.length∧out.take i=es.take i) (fun ys=>es.length - (nth ys 1).I.toNat) ?_ ?_⟩
 ·simp[-List.getD_eq_getElem?_getD,zE3]
  exact⟨_,0,⟨rfl,rfl⟩,by simp,by simp,by simp⟩
 ·rintro ys ⟨out,i,rfl,h2,h3,h4⟩
  refine hW.vc [] _ _ ?_
  simp[-List.getD_eq_getElem?_getD,zE3]
  refine fun _=>⟨fun h5=>⟨h5,fun _=>⟨by omega,?_⟩⟩,fun h5=>?_⟩
  ·obtain⟨x,hx,_⟩:=tes _ (zb h5)
   rw[zC (by omega)]
   refine⟨⟨_,i+1,⟨rfl,by omega⟩,by omega,by simp[h3],zD1 h4 h3 h5 (by rw[hx,yp])⟩,by omega⟩
  ·rw[List.take_of_length_le (by omega),List.take_of_length_le (by omega)] at h4
   exact h4
def zAR:zJ:=⟨[(.rd,.list (.int .i64)),(.rd,.list (.int .i64))],[.bool],true,fun _=>True,fun ps=>[.bool (eqL eqB (nth ps 0).L (nth ps 1).L)],fun _=>[]⟩
theorem zLg:zh Tryz.prog 16 zAR:=by
 refine zP [0,1,4,5] [.tmp 4] (zD (zB [])) mixed Tryz.func16 rfl (by decide) rfl (by decide) rfl ?_
 intro ps hT hpre W hW
 simp only[zAR,TyA,Ty,Tys] at hT hpre
 obtain⟨_,_,rfl,⟨es,rfl,hes,tes⟩,_,_,rfl,⟨es2,rfl,hes2,tes2⟩,rfl⟩:=hT
 refine hW.vc [(6,[],tkN [0,1,2,3,4,5,6,7,8] .done)] _ _ ?_
 simp[-List.getD_eq_getElem?_getD,zAR]
 refine fun h1 h2=>⟨fun h3=>zAX (by omega),fun h3=>?_⟩
 refine hW.loopS _ _ _ [.sl 5 .dp (.int .i64)] (fun ys=>∃i:Nat,ys=[.int .i64 i]∧i≤es.length∧eqL eqB es es2=eqL eqB (es.drop i) (es2.drop i)) (fun ys=>es.length - (nth ys 0).I.toNat) ?_ ?_
 ·simp[-List.getD_eq_getElem?_getD,zAR]
  exact⟨0,rfl,by simp,by simp⟩
 ·rintro ys ⟨i,rfl,h4,h5⟩
  refine hW.vc [(6,[],tkN [0,1,2,3,4,5,6,7,8] .done)] _ _ ?_
  simp[-List.getD_eq_getElem?_getD,zAR]
  refine fun _=>⟨fun h6=>⟨by decide +kernel,h6,fun _=>⟨by omega,fun _=>?_⟩⟩,fun h6=>?_⟩
  ·rw[zG h6,zG (by omega:i < es2.length),eqL] at h5
   rw[zC (by omega)]
   refine⟨fun h7=>by rw[h5];simp[eqB,h7],fun h7=>⟨⟨i+1,by omega,by omega,by rw[h5];simp[eqB,h7]⟩,by omega⟩⟩
  ·rw[h5,List.drop_eq_nil_of_le h6,List.drop_eq_nil_of_le (by omega)];rfl
def zCs(k:Int):Nat→List PV
 | 0=>[]
 | n+1=>.int .i64 k :: zCs (k+1) n
theorem zCG:∀(n:Nat) (k:Int),(zCs k n).length=n
 | 0,_=>rfl
 | n+1,k=>by simp[zCs,zCG n]
theorem zFo:∀(n:Nat) (k:Int),zCs k (n+1)=zCs k n++[.int .i64 (k+n)]
 | 0,k=>by simp[zCs]
 | n+1,k=>by
  rw[zCs,zFo n (k+1),zCs,List.cons_append]
  have e:k+1+(n:Int)=k+((n+1:Nat):Int):=by omega
  rw[e]
def zAB:zJ:=⟨[(.mt,.list (.int .i64)),(.rd,.int .i64)],[.int .i64],true,fun ps=>0≤(nth ps 1).I∧(nth ps 1).I+(nth ps 0).L.length≤1073741823,fun ps=>[.int .i64 ((nth ps 1).I+(nth ps 0).L.length)],fun ps=>[.list (zCs (nth ps 1).I (nth ps 0).L.length)]⟩
theorem zHi:zh Tryz.prog 20 zAB:=by
 refine zP [0,1,4,5] [.tmp 4] (zD (zB [])) mixed Tryz.func20 rfl (by decide) rfl (by decide) rfl ?_
 intro ps hT hpre W hW
 simp only[zAB,TyA,Ty,Tys] at hT hpre
 obtain⟨_,_,rfl,⟨es,rfl,hes,tes⟩,_,_,rfl,⟨k,rfl,hk⟩,rfl⟩:=hT
 simp only[zE,zF,yp,zAA] at hpre
 refine hW.vc [] _ _ ?_
 simp[-List.getD_eq_getElem?_getD,zAB]
 refine hW.loopS _ _ _ [.ar 0 (.int .i64),.sl 1 .dp (.int .i64),.sl 5 .dp (.int .i64)] (fun ys=>∃i:Nat,ys=[.list (zCs k i++es.drop i),.int .i64 (k+i),.int .i64 i]∧i≤es.length) (fun ys=>es.length - (nth ys 2).I.toNat) ?_ ?_
 ·simp[-List.getD_eq_getElem?_getD,zAB]
  exact⟨0,⟨by simp[zCs],by omega,rfl⟩,by omega⟩
 ·rintro ys ⟨i,rfl,h2⟩
  refine hW.vc [] _ _ ?_
  simp[-List.getD_eq_getElem?_getD,zAB]
  rw[zCG,zC (n:=k+(i:Int)+1) (by omega),zC (n:=(i:Int)+1) (by omega)]
  refine fun _=>⟨fun h3=>⟨by omega,by omega,⟨i+1,⟨?_,by omega,by omega⟩,by omega⟩,by omega⟩,fun h3=>?_⟩
  ·exact zBY (zCG i k) (by omega) (zFo i k)
  ·have:i=es.length:=by omega
   subst this
   simp
def zAj(k:Int)(e:PV):Bool:=e.I == k
theorem zHk(n:Nat)(k:Int):zn zAj 1 k (zCs k n)=k+n:=by
 rw[zBy (m:=zCs) (fun _=>rfl) (fun k n=>⟨_,rfl,by simp[zAj,yp]⟩),Int.one_mul]
def zAV:zJ:=⟨[(.rd,.list (.int .i64)),(.rd,.int .i64)],[.int .i64],true,fun ps=>0≤(nth ps 1).I∧(nth ps 1).I+(nth ps 0).L.length≤1073741823,fun ps=>[.int .i64 (zn zAj 1 (nth ps 1).I (nth ps 0).L)],fun _=>[]⟩
theorem zHj:zh Tryz.prog 22 zAV:=by
 refine zP [0,1,4,5] [.tmp 4] (zD (zB [])) mixed Tryz.func22 rfl (by decide) rfl (by decide) rfl ?_
 intro ps hT hpre W hW
 simp only[zAV,TyA,Ty,Tys] at hT hpre
 obtain⟨_,_,rfl,⟨es,rfl,hes,tes⟩,_,_,rfl,⟨k,rfl,hk⟩,rfl⟩:=hT
 simp only[zE,zF,yp,zAA] at hpre
 refine hW.vc [] _ _ ?_
 simp[-List.getD_eq_getElem?_getD,zAV]
 refine hW.loopS _ _ _ [.sl 1 .dp (.int .i64),.sl 5 .dp (.int .i64)] (fun ys=>∃i:Nat,ys=[.int .i64 (k+i),.int .i64 i]∧i≤es.length∧zn zAj 1 k es=zn zAj 1 (k+i) (es.drop i)) (fun ys=>es.length - (nth ys 1).I.toNat) ?_ ?_
 ·simp[-List.getD_eq_getElem?_getD,zAV]
  exact⟨0,⟨by omega,rfl⟩,by omega,by simp⟩
 ·rintro ys ⟨i,rfl,h2,h3⟩
  refine hW.vc [] _ _ ?_
  simp[-List.getD_eq_getElem?_getD,zAV]
  rw[zC (n:=k+(i:Int)+1) (by omega),zC (n:=(i:Int)+1) (by omega)]
  refine fun _=>⟨fun h4=>⟨h4,fun _=>⟨fun h5=>?_,fun h5=>⟨⟨i+1,⟨by omega,by omega⟩,by omega,?_⟩,by omega⟩⟩⟩,fun h4=>?_⟩
  ·rw[h3,zG h4,zn,if_neg (by simp[zAj,h5])]
  ·have e:k+((i+1:Nat):Int)=k+i+1:=by omega
   rw[h3,zG h4,zn,if_pos (by simp[zAj,h5]),e]
  ·rw[h3,List.drop_eq_nil_of_le h4];rfl
end
section
variable [zS]
def szQ(a:Int)(v x m:Nat):Int:=if a < 0 then -1 else if zFH a v < 0 then -1 else if zFH (zFH a v) x < 0 then -1 else zFH (zFH (zFH a v) x) m
def szN(v:List PV)(l:Int):Int:=szQ (zLo zEb (nth v 6).L l) (nth v 10).L.length (nth v 11).L.length (nth v 12).L.length
theorem zDx{l:Int}{n:Nat}(h:0≤l):zFH l n≤l∧-1≤zFH l n∧(0≤zFH l n→(n:Int)≤l):=by
 unfold zFH;split<;>omega
def zE4:zJ:=⟨[(.rd,.agg [.int .i64,.int .i64,.int .i64,.int .i64,.int .i64,.bool,.list (.agg [.int .i64,.str]),.int .i64,.int .i64,.int .i64,.list (.int .i64),.list (.int .i64),.list (.int .i64)]),(.rd,.int .i64)],[.int .i64],true,fun ps=>0≤(nth ps 1).I,fun ps=>[.int .i64 (szN (nth ps 0).A (nth ps 1).I)],fun _=>[]⟩
theorem zSH:zh Tryz.prog 105 zE4:=by
 refine zP [0,1,2,4] [.tmp 4] (zA (cs:=[]) zSI (zA (cs:=[]) zJi (zD (zB [])))) mixed Tryz.func105 rfl (by decide) rfl (by decide) rfl ?_
 intro ps hT hpre W hW
 simp only[zE4,TyA,Ty,Tys] at hT hpre
 obtain⟨_,_,rfl,⟨_,rfl,_,_,rfl,⟨n0,rfl,hn0⟩,_,_,rfl,⟨n1,rfl,hn1⟩,_,_,rfl,⟨n2,rfl,hn2⟩,_,_,rfl,⟨n3,rfl,hn3⟩,_,_,rfl,⟨n4,rfl,hn4⟩,_,_,rfl,⟨u,rfl⟩,_,_,rfl,⟨es,rfl,hes,tes⟩,_,_,rfl,⟨n5,rfl,hn5⟩,_,_,rfl,⟨n6,rfl,hn6⟩,_,_,rfl,⟨n7,rfl,hn7⟩,_,_,rfl,⟨vs,rfl,hvs,tvs⟩,_,_,rfl,⟨xs,rfl,hxs,txs⟩,_,_,rfl,⟨ms,rfl,hms,tms⟩,rfl⟩,_,_,rfl,⟨l,rfl,hl⟩,rfl⟩:=hT
 simp only[zE,zF,yp] at hpre
 have h1:=zGm zCZ (es:=es) hpre
 refine hW.vc [] _ _ ?_
 simp[-List.getD_eq_getElem?_getD,zE4,zCS,zHf]
 simp only[szN,zE,zF,zAA]
 unfold szQ
 refine⟨hpre,fun q=>by rw[if_pos q],fun q=>⟨q,fun q2=>by rw[if_neg (by omega),if_pos q2],fun q2=>⟨q2,fun q3=>by rw[if_neg (by omega),if_neg (by omega),if_pos q3],fun q3=>⟨q3,fun q4=>?_,fun q4=>?_⟩⟩⟩⟩
 ·rw[if_neg (by omega),if_neg (by omega),if_neg (by omega)]
  have:=(zDx (n:=ms.length) q3).2.1
  omega
 ·rw[if_neg (by omega),if_neg (by omega),if_neg (by omega)]
theorem zSF:zh Tryz.prog 114 zj:=by
 refine zP [0,1,2,3] [.cell 2 77] (zA (cs:=[]) zSG (zA (cs:=[]) zJh (zD (zB [])))) mixed Tryz.func114 rfl (by decide) rfl (by decide) rfl ?_
 intro ps hT hpre W hW
 simp only[zj,TyA,Ty,Tys] at hT hpre
 obtain⟨_,_,rfl,⟨_,rfl,_,_,rfl,⟨n0,rfl,hn0⟩,_,_,rfl,⟨n1,rfl,hn1⟩,_,_,rfl,⟨n2,rfl,hn2⟩,_,_,rfl,⟨n3,rfl,hn3⟩,_,_,rfl,⟨n4,rfl,hn4⟩,_,_,rfl,⟨u,rfl⟩,_,_,rfl,⟨es,rfl,hes,tes⟩,_,_,rfl,⟨n5,rfl,hn5⟩,_,_,rfl,⟨n6,rfl,hn6⟩,_,_,rfl,⟨n7,rfl,hn7⟩,_,_,rfl,⟨vs,rfl,hvs,tvs⟩,_,_,rfl,⟨xs,rfl,hxs,txs⟩,_,_,rfl,⟨ms,rfl,hms,tms⟩,rfl⟩,rfl⟩:=hT
 simp only[zE,zF,zBE,zAA] at hpre
 refine hW.vc [] _ _ ?_
 simp[-List.getD_eq_getElem?_getD,zj,zCP,zE3]
 exact hpre
def zNc(a b:List PV):Bool:=(nth a 0).I == (nth b 0).I&&(nth a 1).I == (nth b 1).I&&(nth a 2).I == (nth b 2).I&&(nth a 3).I == (nth b 3).I&&(nth a 4).I == (nth b 4).I&&(nth a 5).B == (nth b 5).B&&eqL ze (nth a 6).L (nth b 6).L &&
 (nth a 7).I == (nth b 7).I&&(nth a 8).I == (nth b 8).I&&(nth a 9).I == (nth b 9).I&&eqL eqB (nth a 10).L (nth b 10).L&&eqL eqB (nth a 11).L (nth b 11).L&&eqL eqB (nth a 12).L (nth b 12).L
def zAH:zJ:=⟨[(.rd,.agg [.int .i64,.int .i64,.int .i64,.int .i64,.int .i64,.bool,.list (.agg [.int .i64,.str]),.int .i64,.int .i64,.int .i64,.list (.int .i64),.list (.int .i64),.list (.int .i64)]),(.rd,.agg [.int .i64,.int .i64,.int .i64,.int .i64,.int .i64,.bool,.list (.agg [.int .i64,.str]),.int .i64,.int .i64,.int .i64,.list (.int .i64),.list (.int .i64),.list (.int .i64)])],[.bool],true,fun _=>True,fun ps=>[.bool (zNc (nth ps 0).A (nth ps 1).A)],fun _=>[]⟩
theorem zNU:zh Tryz.prog 100 zAH:=by
 refine zP [0,1,2,3,4] [.tmp 4] (zA (cs:=[]) zLg (zA (cs:=[]) zFq (zD (zB [])))) mixed Tryz.func100 rfl (by decide) rfl (by decide) rfl ?_
 intro ps hT hpre W hW
 simp only[zAH,TyA,Ty,Tys] at hT hpre
 obtain⟨_,_,rfl,⟨_,rfl,_,_,rfl,⟨n0,rfl,hn0⟩,_,_,rfl,⟨n1,rfl,hn1⟩,_,_,rfl,⟨n2,rfl,hn2⟩,_,_,rfl,⟨n3,rfl,hn3⟩,_,_,rfl,⟨n4,rfl,hn4⟩,_,_,rfl,⟨u,rfl⟩,_,_,rfl,⟨es,rfl,hes,tes⟩,_,_,rfl,⟨n5,rfl,hn5⟩,_,_,rfl,⟨n6,rfl,hn6⟩,_,_,rfl,⟨n7,rfl,hn7⟩,_,_,rfl,⟨vs,rfl,hvs,tvs⟩,_,_,rfl,⟨xs,rfl,hxs,txs⟩,_,_,rfl,⟨ms,rfl,hms,tms⟩,rfl⟩,_,_,rfl,⟨_,rfl,_,_,rfl,⟨n0',rfl,hn0'⟩,_,_,rfl,⟨n1',rfl,hn1'⟩,_,_,rfl,⟨n2',rfl,hn2'⟩,_,_,rfl,⟨n3',rfl,hn3'⟩,_,_,rfl,⟨n4',rfl,hn4'⟩,_,_,rfl,⟨u',rfl⟩,_,_,rfl,⟨es',rfl,hes',tes'⟩,_,_,rfl,⟨n5',rfl,hn5'⟩,_,_,rfl,⟨n6',rfl,hn6'⟩,_,_,rfl,⟨n7',rfl,hn7'⟩,_,_,rfl,⟨vs',rfl,hvs',tvs'⟩,_,_,rfl,⟨xs',rfl,hxs',txs'⟩,_,_,rfl,⟨ms',rfl,hms',tms'⟩,rfl⟩,rfl⟩:=hT
 refine hW.vc [] _ _ ?_
 simp[-List.getD_eq_getElem?_getD,zAH,zm,zAR]
 simp only[zNc,zE,zF,yp,zNq,zAA]
 exact⟨fun q1=>by simp[q1],fun q1=>⟨fun q2=>by simp[q2],fun q2=>⟨fun q3=>by simp[q3],fun q3=>⟨fun q4=>by simp[q4],fun q4=>⟨fun q5=>by simp[q5],fun q5=>⟨fun q6=>by simp[q6],fun q6=>⟨fun q7=>by simp[q7],fun q7=>⟨fun q8=>by simp[q8],fun q8=>⟨fun q9=>by simp[q9],fun q9=>⟨fun q10=>by simp[q10],fun q10=>⟨fun q11=>by simp[q11],fun q11=>⟨fun q12=>by simp[q12],fun q12=>⟨fun q13=>by simp[q13],fun q13=>by simp[q1,q2,q3,q4,q5,q6,q7,q8,q9,q10,q11,q12,q13]⟩⟩⟩⟩⟩⟩⟩⟩⟩⟩⟩⟩⟩
theorem zGN(v:List PV):zNc v v=true:=by simp[zNc,y9 (f:=ze) zBj,zGQ]
def zL3(a b:List PV):Bool:=(nth a 0).I == (nth b 0).I&&(nth a 1).I == (nth b 1).I&&(nth a 2).I == (nth b 2).I&&(nth a 3).I == (nth b 3).I&&(nth a 4).I == (nth b 4).I&&(nth a 5).I == (nth b 5).I&&(nth a 6).I == (nth b 6).I&&(nth a 7).B == (nth b 7).B&&eqL ze (nth a 8).L (nth b 8).L
theorem zGP(v:List PV):zL3 v v=true:=by simp[zL3,y9 (f:=ze) zBj]
def zAs:zJ:=⟨[(.rd,.agg [.int .i64,.int .i64,.int .i64,.int .i64,.int .i64,.int .i64,.int .i64,.bool,.list (.agg [.int .i64,.str])]),(.rd,.agg [.int .i64,.int .i64,.int .i64,.int .i64,.int .i64,.int .i64,.int .i64,.bool,.list (.agg [.int .i64,.str])])],[.bool],true,fun _=>True,fun ps=>[.bool (zL3 (nth ps 0).A (nth ps 1).A)],fun _=>[]⟩
theorem zIN:zh Tryz.prog 102 zAs:=by
 refine zP [0,1,2,3,4] [.tmp 4] (zA (cs:=[]) zFq (zD (zB []))) mixed Tryz.func102 rfl (by decide) rfl (by decide) rfl ?_
 intro ps hT hpre W hW
 simp only[zAs,TyA,Ty,Tys] at hT hpre
 obtain⟨_,_,rfl,⟨_,rfl,_,_,rfl,⟨n0,rfl,hn0⟩,_,_,rfl,⟨n1,rfl,hn1⟩,_,_,rfl,⟨n2,rfl,hn2⟩,_,_,rfl,⟨n3,rfl,hn3⟩,_,_,rfl,⟨n4,rfl,hn4⟩,_,_,rfl,⟨n5,rfl,hn5⟩,_,_,rfl,⟨n6,rfl,hn6⟩,_,_,rfl,⟨u,rfl⟩,_,_,rfl,⟨es,rfl,hes,tes⟩,rfl⟩,_,_,rfl,⟨_,rfl,_,_,rfl,⟨n0',rfl,hn0'⟩,_,_,rfl,⟨n1',rfl,hn1'⟩,_,_,rfl,⟨n2',rfl,hn2'⟩,_,_,rfl,⟨n3',rfl,hn3'⟩,_,_,rfl,⟨n4',rfl,hn4'⟩,_,_,rfl,⟨n5',rfl,hn5'⟩,_,_,rfl,⟨n6',rfl,hn6'⟩,_,_,rfl,⟨u',rfl⟩,_,_,rfl,⟨es',rfl,hes',tes'⟩,rfl⟩,rfl⟩:=hT
 refine hW.vc [] _ _ ?_
 simp[-List.getD_eq_getElem?_getD,zAs,zm]
 simp only[zL3,zE,zF,yp,zNq,zAA]
 exact⟨fun q1=>by simp[q1],fun q1=>⟨fun q2=>by simp[q2],fun q2=>⟨fun q3=>by simp[q3],fun q3=>⟨fun q4=>by simp[q4],fun q4=>⟨fun q5=>by simp[q5],fun q5=>⟨fun q6=>by simp[q6],fun q6=>⟨fun q7=>by simp[q7],fun q7=>⟨fun q8=>by simp[q8],fun q8=>⟨fun q9=>by simp[q9],fun q9=>by simp[q1,q2,q3,q4,q5,q6,q7,q8,q9]⟩⟩⟩⟩⟩⟩⟩⟩⟩
def zDZ(a b:PV):Bool:=zL3 a.A b.A
theorem zGO(es:List PV):eqL zDZ es es=true:=y9 fun _=>zGP _
def zp:zJ:=⟨[(.rd,.list (.agg [.int .i64,.int .i64,.int .i64,.int .i64,.int .i64,.int .i64,.int .i64,.bool,.list (.agg [.int .i64,.str])])),(.rd,.list (.agg [.int .i64,.int .i64,.int .i64,.int .i64,.int .i64,.int .i64,.int .i64,.bool,.list (.agg [.int .i64,.str])]))],[.bool],true,fun _=>True,fun ps=>[.bool (eqL zDZ (nth ps 0).L (nth ps 1).L)],fun _=>[]⟩
theorem zHL:zh Tryz.prog 54 zp:=by
 refine zP [0,1,4,5] [.tmp 4] (zA (cs:=[]) zIN (zD (zB []))) mixed Tryz.func54 rfl (by decide) rfl (by decide) rfl ?_
 intro ps hT hpre W hW
 simp only[zp,TyA,Ty,Tys] at hT hpre
 obtain⟨_,_,rfl,⟨es,rfl,hes,tes⟩,_,_,rfl,⟨es2,rfl,hes2,tes2⟩,rfl⟩:=hT
 refine hW.vc [(6,[],tkN [0,1,2,3,4,5,6,7] (alS 8 (tkN [9] .done)))] _ _ ?_
 simp[-List.getD_eq_getElem?_getD,zp,zAs]
 refine fun h1 h2=>⟨fun h3=>zAX (by omega),fun h3=>?_⟩
 refine hW.loopS _ _ _ [.sl 5 .dp (.int .i64)] (fun ys=>∃i:Nat,ys=[.int .i64 i]∧i≤es.length∧eqL zDZ es es2=eqL zDZ (es.drop i) (es2.drop i)) (fun ys=>es.length - (nth ys 0).I.toNat) ?_ ?_
 ·simp[-List.getD_eq_getElem?_getD,zp,zAs]
  exact⟨0,rfl,by simp,by simp⟩
 ·rintro ys ⟨i,rfl,h4,h5⟩
  refine hW.vc [(6,[],tkN [0,1,2,3,4,5,6,7] (alS 8 (tkN [9] .done)))] _ _ ?_
  simp[-List.getD_eq_getElem?_getD,zp,zAs]
  refine fun _=>⟨fun h6=>⟨by decide +kernel,h6,fun _ _ _ _ _ _ _ _ _ _ _ _ _ _ _=>⟨by omega,fun _ _ _ _ _ _ _ _ _ _ _ _ _ _ _=>?_⟩⟩,fun h6=>?_⟩
  ·rw[zG h6,zG (by omega:i < es2.length),eqL] at h5
   have h8:zL3 [PV.int IntKind.i64 (nth (nth es i).A 0).I,PV.int IntKind.i64 (nth (nth es i).A 1).I,PV.int IntKind.i64 (nth (nth es i).A 2).I,PV.int IntKind.i64 (nth (nth es i).A 3).I,PV.int IntKind.i64 (nth (nth es i).A 4).I,PV.int IntKind.i64 (nth (nth es i).A 5).I,
      PV.int IntKind.i64 (nth (nth es i).A 6).I,PV.bool (nth (nth es i).A 7).B,PV.list (nth (nth es i).A 8).L]
     [PV.int IntKind.i64 (nth (nth es2 i).A 0).I,PV.int IntKind.i64 (nth (nth es2 i).A 1).I,PV.int IntKind.i64 (nth (nth es2 i).A 2).I,PV.int IntKind.i64 (nth (nth es2 i).A 3).I,PV.int IntKind.i64 (nth (nth es2 i).A 4).I,PV.int IntKind.i64 (nth (nth es2 i).A 5).I,
      PV.int IntKind.i64 (nth (nth es2 i).A 6).I,PV.bool (nth (nth es2 i).A 7).B,PV.list (nth (nth es2 i).A 8).L]=zDZ (nth es i) (nth es2 i):=rfl
   rw[zC (by omega),h8]
   refine⟨fun h7=>by rw[h5];simp[h7],fun h7=>⟨⟨i+1,by omega,by omega,by rw[h5];simp[h7]⟩,by omega⟩⟩
  ·rw[h5,List.drop_eq_nil_of_le h6,List.drop_eq_nil_of_le (by omega)];rfl
theorem zDh{f:Int→PV→Bool}{d:Int}(hd:0≤d):∀{es:List PV} {k:Int},0≤k→zn f d k es=-1∨zn f d k es=k+d*es.length
 | [],k,hk=>by simp[zn]
 | e :: es,k,hk=>by
  simp only[zn]
  split
  ·rcases zDh hd (es:=es) (k:=k+d) (by omega) with h | h
   ·exact .inl h
   ·refine .inr ?_
    rw[h,List.length_cons,Int.natCast_add,Int.mul_add];omega
  ·exact .inl rfl
end
section
variable [zS]
def msN(e:PV):Int:=8+2*(nth e.A 8).L.length
def zOf(k:Int):Bool:=k.tmod 3 == 0
def mkM(k:Int)(e:PV):PV:=.agg [.int .i64 k,.int .i64 (k+1),.int .i64 (k+2),.int .i64 (k+3),.int .i64 (k+4),.int .i64 (k+5),.int .i64 (k+6),.bool (zOf (k+7)),.list (zC8 (k+8) (nth e.A 8).L.length)]
def zAM(k:Int):List PV→Int
 | []=>k
 | e :: es=>zAM (k+msN e) es
def yw(k:Int):List PV→List PV
 | []=>[]
 | e :: es=>mkM k e :: yw (k+msN e) es
theorem zCj(x:PV):∀(es:List PV) (k:Int),zAM k (es++[x])=zAM k es+msN x
 | [],k=>rfl
 | e :: es,k=>by simp only[List.cons_append,zAM];exact zCj x es _
theorem zEf(x:PV):∀(es:List PV) (k:Int),yw k (es++[x])=yw k es++[mkM (zAM k es) x]
 | [],k=>rfl
 | e :: es,k=>by simp only[List.cons_append,yw,zAM];rw[zEf x es]
theorem zBF:∀(es:List PV) (k:Int),(yw k es).length=es.length
 | [],k=>rfl
 | e :: es,k=>by simp only[yw,List.length_cons,zBF es]
theorem zBU:∀(es:List PV) (k:Int),k≤zAM k es
 | [],k=>Int.le_refl _
 | e :: es,k=>by have:=zBU es (k+msN e);simp only[zAM];unfold msN at *;omega
theorem zFk(es:List PV)(k:Int){i:Nat}(h:i < es.length):zAM k (es.take i)+msN (nth es i)≤zAM k es:=by
 induction es generalizing k i with
 | nil=>simp at h
 | cons e es ih=>
  cases i with
  | zero=>rw[zE];exact zBU es (k+msN e)
  | succ i=>rw[zF];exact ih (k+msN e) (by simpa using h)
theorem zK6(k:Int)(e:PV):msN (mkM k e)=msN e:=by simp[msN,mkM,zE,zF,zBE,zAA,zBM]
def yW:zJ:=⟨[(.mt,.list (.agg [.int .i64,.int .i64,.int .i64,.int .i64,.int .i64,.int .i64,.int .i64,.bool,.list (.agg [.int .i64,.str])])),(.rd,.int .i64)],[.int .i64],true,fun ps=>0≤(nth ps 1).I∧zAM (nth ps 1).I (nth ps 0).L≤1073741823,fun ps=>[.int .i64 (zAM (nth ps 1).I (nth ps 0).L)],fun ps=>[.list (yw (nth ps 1).I (nth ps 0).L)]⟩
theorem zFJ:zh Tryz.prog 60 yW:=by
 refine zP [0,1,4,5] [.tmp 4] (zA (cs:=[]) zDu (zD (zB []))) mixed Tryz.func60 rfl (by decide) rfl (by decide) rfl ?_
 intro ps hT hpre W hW
 simp only[yW,TyA,Ty,Tys] at hT hpre
 obtain⟨_,_,rfl,⟨es,rfl,hes,tes⟩,_,_,rfl,⟨k,rfl,hk⟩,rfl⟩:=hT
 simp only[zE,zF,yp,zAA] at hpre
 refine hW.vc [] _ _ ?_
 simp[-List.getD_eq_getElem?_getD,yW,zs]
 refine hW.loopS _ _ _ [.ar 0 (.agg [.int .i64,.int .i64,.int .i64,.int .i64,.int .i64,.int .i64,.int .i64,.bool,.list (.agg [.int .i64,.str])]),.sl 1 .dp (.int .i64),.sl 5 .dp (.int .i64)] (fun ys=>∃i:Nat,ys=[.list (yw k (es.take i)++es.drop i),.int .i64 (zAM k (es.take i)),.int .i64 i]∧i≤es.length) (fun ys=>es.length - (nth ys 2).I.toNat) ?_ ?_
 ·simp[-List.getD_eq_getElem?_getD,yW,zs]
  exact⟨0,⟨by simp[yw],by simp[zAM],rfl⟩,by omega⟩
 ·rintro ys ⟨i,rfl,h2⟩
  by_cases h3:i < es.length
  ·have h4:i < (yw k (es.take i)++es.drop i).length:=by rw[List.length_append,zBF,List.length_take,List.length_drop];omega
   have h5:(yw k (es.take i)++es.drop i).length=es.length:=by rw[List.length_append,zBF,List.length_take,List.length_drop];omega
   obtain⟨L,hL⟩:∃L,L=yw k (es.take i)++es.drop i:=⟨_,rfl⟩
   obtain⟨K,hK⟩:∃K,K=zAM k (es.take i):=⟨_,rfl⟩
   rw[←hL] at h4 h5
   rw[←hL,←hK]
   have h6:∀x,nth (L.set i x) i=x:=fun x=>zEc h4
   refine hW.vc [] _ _ ?_
   simp[-List.getD_eq_getElem?_getD,yW,zs,h6]
   have g1:=zFk es k h3
   have g2:=zBU (es.take i) k
   rw[←hK] at g1 g2
   have g3:nth L i=nth es i:=by rw[hL,zG h3];simp[nth,List.getElem?_append_right,zBF,List.length_take,Nat.min_eq_left h2]
   have g4:msN (nth es i)=8+2*(nth (nth es i).A 8).L.length:=rfl
   rw[g3]
   have e1:IntKind.i64.wrap (K+1)=K+1:=zC (by omega)
   have e2:IntKind.i64.wrap (K+1+1)=K+2:=by rw[zC (by omega)];omega
   have e3:IntKind.i64.wrap (K+2+1)=K+3:=by rw[zC (by omega)];omega
   have e4:IntKind.i64.wrap (K+3+1)=K+4:=by rw[zC (by omega)];omega
   have e5:IntKind.i64.wrap (K+4+1)=K+5:=by rw[zC (by omega)];omega
   have e6:IntKind.i64.wrap (K+5+1)=K+6:=by rw[zC (by omega)];omega
   have e7:IntKind.i64.wrap (K+6+1)=K+7:=by rw[zC (by omega)];omega
   have e8:IntKind.i64.wrap (K+7+1)=K+8:=by rw[zC (by omega)];omega
   have e9:IntKind.i64.wrap ((i:Int)+1)=(i:Int)+1:=zC (by rw[LIM] at hes;omega)
   simp only[e1,e2,e3,e4,e5,e6,e7,e8,e9]
   refine fun _=>⟨fun _=>⟨h4,fun _=>⟨⟨by omega,by omega⟩,⟨i+1,⟨?_,?_,by omega⟩,by omega⟩,by omega⟩⟩,fun h=>by omega⟩
   ·rw[zd h3,zEf,hL]
    exact zBY (by rw[zBF,List.length_take];omega) h3 (by rw[hK];rfl)
   ·rw[zd h3,zCj,←hK,g4];omega
  ·have:i=es.length:=by omega
   subst this
   have h4:yw k (es.take es.length)++es.drop es.length=yw k es:=by simp
   have h5:(yw k es).length=es.length:=zBF es k
   rw[h4,List.take_length]
   obtain⟨L,hL⟩:∃L,L=yw k es:=⟨_,rfl⟩
   rw[←hL] at h5 ⊢
   have h6:∀x,nth (L.set es.length x) es.length=PV.d:=fun x=>by simp[nth,h5]
   refine hW.vc [] _ _ ?_
   simp[-List.getD_eq_getElem?_getD,yW,zs,h6,h5]
   exact fun _=>hL
def zBW(k:Int)(e:PV):Bool:=(nth e.A 0).I == k&&(nth e.A 1).I == k+1&&(nth e.A 2).I == k+2&&(nth e.A 3).I == k+3&&(nth e.A 4).I == k+4&&(nth e.A 5).I == k+5&&(nth e.A 6).I == k+6&&(nth e.A 7).B == zOf (k+7)&&zn zBN 2 (k+8) (nth e.A 8).L == k+msN e
def zBV(k:Int):List PV→Int
 | []=>k
 | e :: es=>if zBW k e then zBV (k+msN e) es else -1
theorem zEm:∀(es:List PV) (k:Int),zBV k (yw k es)=zAM k es
 | [],k=>rfl
 | e :: es,k=>by
  rw[yw,zBV,if_pos,zK6,zEm es,zAM]
  rw[zBW,zK6]
  simp[mkM,msN,zE,zF,zBE,yp,zAA,zNq,zFr]
  omega
def yn:zJ:=⟨[(.rd,.list (.agg [.int .i64,.int .i64,.int .i64,.int .i64,.int .i64,.int .i64,.int .i64,.bool,.list (.agg [.int .i64,.str])])),(.rd,.int .i64)],[.int .i64],true,fun ps=>0≤(nth ps 1).I∧zAM (nth ps 1).I (nth ps 0).L≤1073741823,fun ps=>[.int .i64 (zBV (nth ps 1).I (nth ps 0).L)],fun _=>[]⟩
set_option maxHeartbeats 1000000 in
theorem zFL:zh Tryz.prog 64 yn:=by
 refine zP [0,1,4,5] [.tmp 4] (zA (cs:=[]) zDv (zD (zB []))) mixed Tryz.func64 rfl (by decide) rfl (by decide) rfl ?_
 intro ps hT hpre W hW
 simp only[yn,TyA,Ty,Tys] at hT hpre
 obtain⟨_,_,rfl,⟨es,rfl,hes,tes⟩,_,_,rfl,⟨k,rfl,hk⟩,rfl⟩:=hT
 simp only[zE,zF,yp,zAA] at hpre
 refine hW.vc [] _ _ ?_
 simp[-List.getD_eq_getElem?_getD,yn,yB]
 refine hW.loopS _ _ _ [.sl 1 .dp (.int .i64),.sl 5 .dp (.int .i64)] (fun ys=>∃i:Nat,ys=[.int .i64 (zAM k (es.take i)),.int .i64 i]∧i≤es.length∧zBV k es=zBV (zAM k (es.take i)) (es.drop i)) (fun ys=>es.length - (nth ys 1).I.toNat) ?_ ?_
 ·simp[-List.getD_eq_getElem?_getD,yn,yB]
  exact⟨0,⟨by simp[zAM],rfl⟩,by omega,by simp[zAM]⟩
 ·rintro ys ⟨i,rfl,h2,h3⟩
  refine hW.vc [] _ _ ?_
  simp[-List.getD_eq_getElem?_getD,yn,yB]
  by_cases h4:i < es.length
  ·have g1:=zFk es k h4
   have g2:=zBU (es.take i) k
   obtain⟨K,hK⟩:∃K,K=zAM k (es.take i):=⟨_,rfl⟩
   rw[←hK] at g1 g2 h3 ⊢
   have g4:msN (nth es i)=8+2*(nth (nth es i).A 8).L.length:=rfl
   rw[zG h4,zBV] at h3
   have no:zBW K (nth es i)=false→zBV k es=-1:=fun q=>by rw[h3,if_neg (by rw[q];simp)]
   have e1:IntKind.i64.wrap (K+1)=K+1:=zC (by omega)
   have e2:IntKind.i64.wrap (K+1+1)=K+2:=by rw[zC (by omega)];omega
   have e3:IntKind.i64.wrap (K+2+1)=K+3:=by rw[zC (by omega)];omega
   have e4:IntKind.i64.wrap (K+3+1)=K+4:=by rw[zC (by omega)];omega
   have e5:IntKind.i64.wrap (K+4+1)=K+5:=by rw[zC (by omega)];omega
   have e6:IntKind.i64.wrap (K+5+1)=K+6:=by rw[zC (by omega)];omega
   have e7:IntKind.i64.wrap (K+6+1)=K+7:=by rw[zC (by omega)];omega
   have e8:IntKind.i64.wrap (K+7+1)=K+8:=by rw[zC (by omega)];omega
   have e9:IntKind.i64.wrap ((i:Int)+1)=(i:Int)+1:=zC (by rw[LIM] at hes;omega)
   simp only[e1,e2,e3,e4,e5,e6,e7,e8,e9]
   have b1:0≤K+8∧K+8+2*((nth (nth es i).A 8).L.length:Int)≤1073741823:=⟨by omega,by omega⟩
   have a1:=zDh (f:=zBN) (d:=2) (by omega) (es:=(nth (nth es i).A 8).L) (k:=K+8) (by omega)
   obtain⟨H,hH⟩:∃H,H=zn zBN 2 (K+8) (nth (nth es i).A 8).L:=⟨_,rfl⟩
   rw[←hH] at a1 ⊢
   have b2:H < 0→¬H=K+msN (nth es i):=fun _=>by omega
   have b3:0≤H→H=K+msN (nth es i):=fun _=>by omega
   have b4:es.length≤i→False:=fun _=>by omega
   have b5:(i:Int)+1=((i+1:Nat):Int):=rfl
   have b6:i+1≤es.length:=h4
   have b7:es.length - ((i:Int)+1).toNat < es.length - i:=by omega
   refine fun _=>⟨fun _=>⟨h4,fun _=>⟨fun q=>(no (by simp[zBW,q])).symm,fun q0=>⟨h4,fun _=>⟨fun q=>(no (by simp[zBW,q])).symm,fun q1=>⟨h4,fun _=>⟨fun q=>(no (by simp[zBW,q])).symm,fun q2=>
    ⟨h4,fun _=>⟨fun q=>(no (by simp[zBW,q])).symm,fun q3=>⟨h4,fun _=>⟨fun q=>(no (by simp[zBW,q])).symm,fun q4=>⟨h4,fun _=>⟨fun q=>(no (by simp[zBW,q])).symm,fun q5=>
    ⟨h4,fun _=>⟨fun q=>(no (by simp[zBW,q])).symm,fun q6=>⟨h4,fun _=>⟨fun q=>(no (by simp[zBW,zOf,q])).symm,fun q7=>⟨h4,fun _=>?_⟩⟩⟩⟩⟩⟩⟩⟩⟩⟩⟩⟩⟩⟩⟩⟩⟩,fun h=>(b4 h).elim⟩
   refine⟨b1,fun q=>(no ?_).symm,fun q8=>?_⟩
   ·have:=b2 q
    rw[hH] at this
    simp[zBW,this]
   ·have a2:=b3 q8
    have a3:zBW K (nth es i)=true:=by rw[hH] at a2;simp[zBW,q0,q1,q2,q3,q4,q5,q6,q7,a2,zOf]
    rw[if_pos a3] at h3
    refine⟨⟨i+1,⟨?_,b5⟩,b6,?_⟩,b7⟩
    ·rw[zd h4,zCj,←hK,a2]
    ·rw[zd h4,zCj,←hK,h3]
  ·have:i=es.length:=by omega
   subst this
   refine fun _=>⟨fun h=>absurd h (Nat.lt_irrefl _),fun _=>?_⟩
   rw[h3,List.drop_length];rfl
end
section
variable [zS]
theorem zKH{b:List UInt8}(sure:Int):(zEO b sure).2.2=(yP b).2.2:=by
 unfold yP zEO
 split
 ·rfl
 ·split<;>rfl
end
section
variable [zS]
theorem zK5(n:ND):z8 (n.pv).A=n:=rfl
end
section
variable [zS]
def zr:zJ:=zY
theorem zEg:zh Tryz.prog 113 zr:=by
 refine zP [0,1,2] [.tmp 2] (zA (cs:=[]) zJl (zA (cs:=[]) zEj (zD (zB [])))) mixed Tryz.func113 rfl (by decide) rfl (by decide) rfl ?_
 intro ps hT hpre W hW
 simp only[zr,TyA,Ty,Tys] at hT hpre
 simp only[zY,TyA,Ty,Tys] at hT hpre
 obtain⟨_,_,rfl,⟨_,rfl,_,_,rfl,⟨m0,rfl,hm0⟩,_,_,rfl,⟨m1,rfl,hm1⟩,_,_,rfl,⟨m2,rfl,hm2⟩,_,_,rfl,⟨m3,rfl,hm3⟩,_,_,rfl,⟨m4,rfl,hm4⟩,_,_,rfl,⟨m5,rfl,hm5⟩,_,_,rfl,⟨m6,rfl,hm6⟩,_,_,rfl,⟨m7,rfl⟩,_,_,rfl,⟨m8,rfl,hm8,tm8⟩,rfl⟩,rfl⟩:=hT
 refine hW.vc [(5,[],tkN [0,1,2,3,4,5,6,7,8,9,10,11,12] (alS 13 (tkN [14,15,16,17,18,19,20,21,22,23,24,25,26,27,28,29,30,31,32,33,34,35,36,37,38,39,40] (alS 41 .done))))] _ _ ?_
 simp[-List.getD_eq_getElem?_getD,zr,zCC,zDC,zY,zT,zAg,zT,zAg,zY,yk]
 refine⟨fun h=>?_,fun b1 b2 b3 b4 b5 b6 b7 b8=>⟨fun h _=>?_,fun h=>⟨by decide +kernel,fun _ _=>⟨fun a b c=>⟨⟨⟨a,b⟩,c⟩,List.length_pos_iff.2 c⟩,fun _=>⟨fun a b=>⟨⟨a,b⟩,fun c=>⟨⟨a,b⟩,c⟩⟩,fun a b c=>⟨⟨⟨a,b⟩,c⟩,fun d=>⟨⟨⟨a,b⟩,c⟩,d⟩⟩,?_⟩⟩⟩⟩⟩
 ·have:zKn ⟨m0,m1,m2,m3,m4,m5,m6,m7,m8⟩=false:=by
   rcases h with ((((((h | h) | h) | h) | h) | h) | h) | h<;>simp[zKn,h]
  simp[mgB,this]
 ·have h1:zKn ⟨m0,m1,m2,m3,m4,m5,m6,m7,m8⟩=true:=by simp[zKn,b1,b2,b3,b4,b5,b6,b7,b8]
  have hk:(m0 == 3)=false:=by simp[h]
  simp only[mgB,h1,hk,cond_false,Bool.true_and]
  rw[Bool.eq_iff_iff]
  simp
 ·have h1:zKn ⟨m0,m1,m2,m3,m4,m5,m6,m7,m8⟩=true:=by simp[zKn,b1,b2,b3,b4,b5,b6,b7,b8]
  have hk:(m0 == 3)=true:=by simp[h]
  rw[zC (n:=60 - m4) (by simp[inB] at b6;omega)]
  have hq:stB m3 0 m8=zKl m3 m8:=by
   have q1:inB m3 0 1000=true:=by simp[inB] at b5 ⊢;omega
   have q2:inB 0 (-1) 4=true:=by decide
   simp[stB,q1,q2]
  simp only[mgB,h1,hk,cond_true,Bool.true_and,zY5,leB,ltB,hq]
  rw[Bool.eq_iff_iff]
  simp
  exact fun _ _=>And.comm
def zCR:zJ:=⟨[(.rd,.agg [.int .i64,.int .i64,.int .i64,.int .i64,.int .i64,.int .i64,.int .i64,.bool,.list (.agg [.int .i64,.str])]),(.rd,.int .i64)],[.int .i64],true,fun ps=>0≤(nth ps 1).I,fun ps=>[.int .i64 (zLo zEb (nth (nth ps 0).A 8).L (nth ps 1).I)],fun _=>[]⟩
theorem zMb:zh Tryz.prog 107 zCR:=by
 refine zP [0,1,2,4] [.tmp 4] (zA (cs:=[]) zJi (zD (zB []))) mixed Tryz.func107 rfl (by decide) rfl (by decide) rfl ?_
 intro ps hT hpre W hW
 simp only[zCR,TyA,Ty,Tys] at hT hpre
 obtain⟨_,_,rfl,⟨_,rfl,_,_,rfl,⟨m0,rfl,hm0⟩,_,_,rfl,⟨m1,rfl,hm1⟩,_,_,rfl,⟨m2,rfl,hm2⟩,_,_,rfl,⟨m3,rfl,hm3⟩,_,_,rfl,⟨m4,rfl,hm4⟩,_,_,rfl,⟨m5,rfl,hm5⟩,_,_,rfl,⟨m6,rfl,hm6⟩,_,_,rfl,⟨m7,rfl⟩,_,_,rfl,⟨m8,rfl,hm8,tm8⟩,rfl⟩,_,_,rfl,⟨l,rfl,hl⟩,rfl⟩:=hT
 simp only[zE,zF,yp] at hpre
 have h1:=zGm zCZ (es:=m8) hpre
 refine hW.vc [] _ _ ?_
 simp[-List.getD_eq_getElem?_getD,zCR,zCS]
 exact⟨hpre,fun q=>by omega⟩
def zCO:zJ:=⟨[(.rd,.agg [.int .i64,.int .i64,.int .i64,.int .i64,.int .i64,.int .i64,.int .i64,.bool,.list (.agg [.int .i64,.str])])],[.agg [.int .i64,.int .i64,.int .i64,.int .i64,.int .i64,.int .i64,.int .i64,.bool,.list (.agg [.int .i64,.str])]],true,fun ps=>(nth (nth ps 0).A 8).L.length≤1048576,fun ps=>[nth ps 0],fun _=>[]⟩
theorem zMY:zh Tryz.prog 116 zCO:=by
 refine zP [0,1,2,3] [.cell 2 120] (zA (cs:=[]) zJh (zD (zB []))) mixed Tryz.func116 rfl (by decide) rfl (by decide) rfl ?_
 intro ps hT hpre W hW
 simp only[zCO,TyA,Ty,Tys] at hT hpre
 obtain⟨_,_,rfl,⟨_,rfl,_,_,rfl,⟨m0,rfl,hm0⟩,_,_,rfl,⟨m1,rfl,hm1⟩,_,_,rfl,⟨m2,rfl,hm2⟩,_,_,rfl,⟨m3,rfl,hm3⟩,_,_,rfl,⟨m4,rfl,hm4⟩,_,_,rfl,⟨m5,rfl,hm5⟩,_,_,rfl,⟨m6,rfl,hm6⟩,_,_,rfl,⟨m7,rfl⟩,_,_,rfl,⟨m8,rfl,hm8,tm8⟩,rfl⟩,rfl⟩:=hT
 simp only[zE,zF,zBE,zAA] at hpre
 refine hW.vc [] _ _ ?_
 simp[-List.getD_eq_getElem?_getD,zCO,zCP]
 exact hpre
end
section
variable [zS]
def zAw:zJ:=⟨[(.rd,.list .str)],[.list .str],true,fun ps=>(nth ps 0).L.length≤1048576,fun ps=>[.list (nth ps 0).L],fun _=>[]⟩
theorem zNV:zh Tryz.prog 125 zAw:=by
 refine zP [0,2] [.tmp 2] (zD (zB [])) mixed Tryz.func125 rfl (by decide) rfl (by decide) rfl ?_
 intro ps hT hpre W hW
 simp only[zAw,TyA,Ty,Tys] at hT hpre
 obtain⟨_,_,rfl,⟨es,rfl,hes,tes⟩,rfl⟩:=hT
 simp only[zE,zAA] at hpre
 refine hW.vc [] _ _ ?_
 simp[-List.getD_eq_getElem?_getD,zAw]
 omega
end
section
variable [zS]
def zDV(a b:PV):Bool:=zNc a.A b.A
theorem zE0(es:List PV):eqL zDV es es=true:=y9 fun _=>zGN _
def zBs:zJ:=⟨[(.rd,.list (.agg [.int .i64,.int .i64,.int .i64,.int .i64,.int .i64,.bool,.list (.agg [.int .i64,.str]),.int .i64,.int .i64,.int .i64,.list (.int .i64),.list (.int .i64),.list (.int .i64)])),(.rd,.list (.agg [.int .i64,.int .i64,.int .i64,.int .i64,.int .i64,.bool,.list (.agg [.int .i64,.str]),.int .i64,.int .i64,.int .i64,.list (.int .i64),.list (.int .i64),.list (.int .i64)]))],[.bool],true,fun _=>True,fun ps=>[.bool (eqL zDV (nth ps 0).L (nth ps 1).L)],fun _=>[]⟩
theorem zLF:zh Tryz.prog 52 zBs:=by
 refine zP [0,1,4,5] [.tmp 4] (zA (cs:=[]) zNU (zD (zB []))) mixed Tryz.func52 rfl (by decide) rfl (by decide) rfl ?_
 intro ps hT hpre W hW
 simp only[zBs,TyA,Ty,Tys] at hT hpre
 obtain⟨_,_,rfl,⟨es,rfl,hes,tes⟩,_,_,rfl,⟨es2,rfl,hes2,tes2⟩,rfl⟩:=hT
 refine hW.vc [(6,[],tkN [0,1,2,3,4,5,6,7] (alS 8 (tkN [9] .done)))] _ _ ?_
 simp[-List.getD_eq_getElem?_getD,zBs,zAH]
 refine fun h1 h2=>⟨fun h3=>zAX (by omega),fun h3=>?_⟩
 refine hW.loopS _ _ _ [.sl 5 .dp (.int .i64)] (fun ys=>∃i:Nat,ys=[.int .i64 i]∧i≤es.length∧eqL zDV es es2=eqL zDV (es.drop i) (es2.drop i)) (fun ys=>es.length - (nth ys 0).I.toNat) ?_ ?_
 ·simp[-List.getD_eq_getElem?_getD,zBs,zAH]
  exact⟨0,rfl,by simp,by simp⟩
 ·rintro ys ⟨i,rfl,h4,h5⟩
  refine hW.vc [(6,[],tkN [0,1,2,3,4,5,6,7] (alS 8 (tkN [9] .done)))] _ _ ?_
  simp[-List.getD_eq_getElem?_getD,zBs,zAH]
  refine fun _=>⟨fun h6=>⟨by decide +kernel,h6,?_⟩,fun h6=>?_⟩
  ·intros
   refine⟨by omega,?_⟩
   intros
   rw[zG h6,zG (by omega:i < es2.length),eqL] at h5
   rw[zC (n:=(i:Int)+1) (by omega)]
   refine⟨fun h7=>?_,fun h7=>⟨⟨i+1,by omega,by omega,?_⟩,by omega⟩⟩
   ·have h8:zDV (nth es i) (nth es2 i)=false:=h7
    rw[h5,h8];rfl
   ·have h8:zDV (nth es i) (nth es2 i)=true:=h7
    rw[h5,h8,Bool.true_and]
  ·rw[h5,List.drop_eq_nil_of_le h6,List.drop_eq_nil_of_le (by omega)];rfl
def zGK(a b:List PV):Bool:=(nth a 0).S == (nth b 0).S&&(nth a 1).I == (nth b 1).I
def zBT(a b:PV):Bool:=zGK a.A b.A
theorem zEz(a:List PV):zGK a a=true:=by simp[zGK]
theorem zEC(es:List PV):eqL zBT es es=true:=y9 fun _=>zEz _
def zBr:zJ:=⟨[(.rd,.agg [.str,.int .i64]),(.rd,.agg [.str,.int .i64])],[.bool],true,fun _=>True,fun ps=>[.bool (zGK (nth ps 0).A (nth ps 1).A)],fun _=>[]⟩
theorem zLE:zh Tryz.prog 101 zBr:=by
 refine zP [0,1,2,3,4] [.tmp 4] (zD (zB [])) mixed Tryz.func101 rfl (by decide) rfl (by decide) rfl ?_
 intro ps hT hpre W hW
 simp only[zBr,TyA,Ty,Tys] at hT hpre
 obtain⟨_,_,rfl,⟨_,rfl,_,_,rfl,⟨c,rfl,hc⟩,_,_,rfl,⟨y,rfl,hy⟩,rfl⟩,_,_,rfl,⟨_,rfl,_,_,rfl,⟨c',rfl,hc'⟩,_,_,rfl,⟨y',rfl,hy'⟩,rfl⟩,rfl⟩:=hT
 refine hW.vc [] _ _ ?_
 simp[-List.getD_eq_getElem?_getD,zBr]
 simp only[zGK,zE,zF,yp,zEW]
 exact⟨fun q1=>by simp[q1],fun q1=>⟨fun q2=>by simp[q2],fun q2=>by simp[q1,q2]⟩⟩
def zBG:zJ:=⟨[(.rd,.list (.agg [.str,.int .i64])),(.rd,.list (.agg [.str,.int .i64]))],[.bool],true,fun _=>True,fun ps=>[.bool (eqL zBT (nth ps 0).L (nth ps 1).L)],fun _=>[]⟩
theorem zJk:zh Tryz.prog 53 zBG:=by
 refine zP [0,1,4,5] [.tmp 4] (zA (cs:=[]) zLE (zD (zB []))) mixed Tryz.func53 rfl (by decide) rfl (by decide) rfl ?_
 intro ps hT hpre W hW
 simp only[zBG,TyA,Ty,Tys] at hT hpre
 obtain⟨_,_,rfl,⟨es,rfl,hes,tes⟩,_,_,rfl,⟨es2,rfl,hes2,tes2⟩,rfl⟩:=hT
 refine hW.vc [(6,[],tkN [0,1,2,3,4,5,6,7] (alS 8 (tkN [9] .done)))] _ _ ?_
 simp[-List.getD_eq_getElem?_getD,zBG,zBr]
 refine fun h1 h2=>⟨fun h3=>zAX (by omega),fun h3=>?_⟩
 refine hW.loopS _ _ _ [.sl 5 .dp (.int .i64)] (fun ys=>∃i:Nat,ys=[.int .i64 i]∧i≤es.length∧eqL zBT es es2=eqL zBT (es.drop i) (es2.drop i)) (fun ys=>es.length - (nth ys 0).I.toNat) ?_ ?_
 ·simp[-List.getD_eq_getElem?_getD,zBG,zBr]
  exact⟨0,rfl,by simp,by simp⟩
 ·rintro ys ⟨i,rfl,h4,h5⟩
  refine hW.vc [(6,[],tkN [0,1,2,3,4,5,6,7] (alS 8 (tkN [9] .done)))] _ _ ?_
  simp[-List.getD_eq_getElem?_getD,zBG,zBr]
  refine fun _=>⟨fun h6=>⟨by decide +kernel,h6,?_⟩,fun h6=>?_⟩
  ·intros
   refine⟨by omega,?_⟩
   intros
   rw[zG h6,zG (by omega:i < es2.length),eqL] at h5
   rw[zC (n:=(i:Int)+1) (by omega)]
   refine⟨fun h7=>?_,fun h7=>⟨⟨i+1,by omega,by omega,?_⟩,by omega⟩⟩
   ·have h8:zBT (nth es i) (nth es2 i)=false:=h7
    rw[h5,h8];rfl
   ·have h8:zBT (nth es i) (nth es2 i)=true:=h7
    rw[h5,h8,Bool.true_and]
  ·rw[h5,List.drop_eq_nil_of_le h6,List.drop_eq_nil_of_le (by omega)];rfl
def zHd(a b:List PV):Bool:=eqL zDV (nth a 0).L (nth b 0).L&&eqL zBT (nth a 1).L (nth b 1).L&&eqL zDZ (nth a 2).L (nth b 2).L&&eqL (fun x y=>x.S == y.S) (nth a 3).L (nth b 3).L
theorem zE1(a:List PV):zHd a a=true:=by simp[zHd,zE0,zEC,zGO,y9]
def yA:zJ:=⟨[(.rd,.agg [.list (.agg [.int .i64,.int .i64,.int .i64,.int .i64,.int .i64,.bool,.list (.agg [.int .i64,.str]),.int .i64,.int .i64,.int .i64,.list (.int .i64),.list (.int .i64),.list (.int .i64)]),.list (.agg [.str,.int .i64]),.list (.agg [.int .i64,.int .i64,.int .i64,.int .i64,.int .i64,.int .i64,.int .i64,.bool,.list (.agg [.int .i64,.str])]),.list .str]),(.rd,.agg [.list (.agg [.int .i64,.int .i64,.int .i64,.int .i64,.int .i64,.bool,.list (.agg [.int .i64,.str]),.int .i64,.int .i64,.int .i64,.list (.int .i64),.list (.int .i64),.list (.int .i64)]),.list (.agg [.str,.int .i64]),.list (.agg [.int .i64,.int .i64,.int .i64,.int .i64,.int .i64,.int .i64,.int .i64,.bool,.list (.agg [.int .i64,.str])]),.list .str])],[.bool],true,fun _=>True,fun ps=>[.bool (zHd (nth ps 0).A (nth ps 1).A)],fun _=>[]⟩
theorem zIO:zh Tryz.prog 15 yA:=by
 refine zP [0,1,2,3,4] [.tmp 4] (zA (cs:=[]) zIM (zA (cs:=[]) zHL (zA (cs:=[]) zJk (zA (cs:=[]) zLF (zD (zB [])))))) mixed Tryz.func15 rfl (by decide) rfl (by decide) rfl ?_
 intro ps hT hpre W hW
 simp only[yA,TyA,Ty,Tys] at hT hpre
 obtain⟨_,_,rfl,⟨_,rfl,_,_,rfl,⟨ns,rfl,hns,tns⟩,_,_,rfl,⟨ss,rfl,hss,tss⟩,_,_,rfl,⟨ws,rfl,hws,tws⟩,_,_,rfl,⟨ds,rfl,hds,tds⟩,rfl⟩,_,_,rfl,⟨_,rfl,_,_,rfl,⟨ns',rfl,hns',tns'⟩,_,_,rfl,⟨ss',rfl,hss',tss'⟩,_,_,rfl,⟨ws',rfl,hws',tws'⟩,_,_,rfl,⟨ds',rfl,hds',tds'⟩,rfl⟩,rfl⟩:=hT
 refine hW.vc [] _ _ ?_
 simp[-List.getD_eq_getElem?_getD,yA,zBs,zBG,zp,zM]
 simp only[zHd,zE,zF,zAA]
 trace_state
 exact⟨fun q1=>by simp[q1],fun q1=>⟨fun q2=>by simp[q2],fun q2=>⟨fun q3=>by simp[q3],fun q3=>⟨fun q4=>by simp[q4],fun q4=>by simp[q1,q2,q3,q4]⟩⟩⟩⟩
end
section
variable [zS]
theorem zHW{n:ND}(h:NdF n):NdF (zO2 n):=
 ⟨h.n1,h.n5,h.i0,h.i1,h.t0,h.t1,h.en,h.l6,h.r0,h.r2,.inl rfl,h.c0,h.c1,h.e0,h.e1,h.w5,h.w1,h.nx,h.ms,h.vo,h.nm,h.vt⟩
theorem zNb{c:CL}(h:ClI c)(a:CA)(ha:zYK a.kind=true):ClI (zAS c a).1∧(zAS c a).1.ns.length=c.ns.length:=by
 unfold zAS
 rw[if_pos ha]
 have:=zSu h a
 exact⟨this.1,this.2.2⟩
end
section
variable [zS]
def zW:zJ:=⟨[(.rd,.agg [.str,.int .i64])],[.bool],true,fun _=>True,fun ps=>[.bool (zDz (nth (nth ps 0).A 0).S (nth (nth ps 0).A 1).I)],fun _=>[]⟩
theorem zEI:zh Tryz.prog 85 zW:=by
 refine zP [0,1,2] [.tmp 2] (zA (cs:=[]) zA9 (zD (zB []))) mixed Tryz.func85 rfl (by decide) rfl (by decide) rfl ?_
 intro ps hT hpre W hW
 simp only[zW,TyA,Ty,Tys] at hT hpre
 obtain⟨_,_,rfl,⟨_,rfl,_,_,rfl,⟨b,rfl,hb⟩,_,_,rfl,⟨sure,rfl,hsure⟩,rfl⟩,rfl⟩:=hT
 refine hW.vc [] _ _ ?_
 simp[-List.getD_eq_getElem?_getD,zW,zT]
 exact fun _ _=>rfl
def yY:zJ:=zW
theorem zIQ:zh Tryz.prog 109 yY:=by
 refine zP [0,1,2] [.tmp 2] (zA (cs:=[]) zEj (zD (zB []))) mixed Tryz.func109 rfl (by decide) rfl (by decide) rfl ?_
 intro ps hT hpre W hW
 simp only[yY,TyA,Ty,Tys] at hT hpre
 simp only[zW,TyA,Ty,Tys] at hT
 obtain⟨_,_,rfl,⟨_,rfl,_,_,rfl,⟨b,rfl,hb⟩,_,_,rfl,⟨sure,rfl,hsure⟩,rfl⟩,rfl⟩:=hT
 refine hW.vc [] _ _ ?_
 simp[-List.getD_eq_getElem?_getD,yY,zCC,zW,zT,zT,zW]
 exact fun _ _=>rfl
theorem zGT:∀{us vs:List PV},us.length=vs.length→((zBk us vs:Int) == us.length)=eqL ze us vs
 | [],[],_=>rfl
 | [],_ :: _,h=>by simp at h
 | _ :: _,[],h=>by simp at h
 | a :: us,b :: vs,h=>by
  have ih:=zGT (us:=us) (vs:=vs) (by simpa using h)
  simp only[zBk,eqL]
  cases hk:ze a b with
  | false=>simp;omega
  | true=>
   rw[if_pos rfl,Bool.true_and,←ih,Bool.eq_iff_iff]
   simp only[beq_iff_eq,List.length_cons]
   omega
def yX:zJ:=⟨[(.rd,.agg [.int .i64,.int .i64,.list (.agg [.int .i64,.str])]),(.rd,.agg [.int .i64,.int .i64,.list (.agg [.int .i64,.str])])],[.bool],true,fun _=>True,fun ps=>[.bool (decide ((nth (nth ps 0).A 0).I=(nth (nth ps 1).A 0).I)&&decide ((nth (nth ps 0).A 1).I=(nth (nth ps 1).A 1).I)&&eqL ze (nth (nth ps 0).A 2).L (nth (nth ps 1).A 2).L)],fun _=>[]⟩
theorem zIJ:zh Tryz.prog 111 yX:=by
 refine zP [0,1,2,3,4] [.tmp 4] (zA (cs:=[]) zIK (zD (zB []))) mixed Tryz.func111 rfl (by decide) rfl (by decide) rfl ?_
 intro ps hT hpre W hW
 simp only[yX,TyA,Ty,Tys] at hT hpre
 obtain⟨_,_,rfl,⟨_,rfl,_,_,rfl,⟨t,rfl,ht⟩,_,_,rfl,⟨v,rfl,hv⟩,_,_,rfl,⟨es,rfl,hes,tes⟩,rfl⟩,_,_,rfl,⟨_,rfl,_,_,rfl,⟨t2,rfl,ht2⟩,_,_,rfl,⟨v2,rfl,hv2⟩,_,_,rfl,⟨es2,rfl,hes2,tes2⟩,rfl⟩,rfl⟩:=hT
 refine hW.vc [(1,[],tkN [0,1,2,3,4,5,6,7,8,9,10,11,12,13,14,15,16,17,18,19,20,21,22,23,24,25,27,28,29] (alS 26 (tkN [30,31] (alS 32 .done))))] _ _ ?_
 simp[-List.getD_eq_getElem?_getD,yX,zA7]
 refine⟨by decide +kernel,fun _ _ _=>?_⟩
 by_cases hl:es.length=es2.length
 ·have:decide ((es.length:Int)=es2.length)=true:=decide_eq_true (by omega)
  rw[zGT hl,this,Bool.and_true]
  rfl
 ·have:decide ((es.length:Int)=es2.length)=false:=decide_eq_false (by omega)
  rw[this,zAX hl]
  simp
end
section
variable [zS]
def yS:zJ:=⟨[(.rd,.list (.agg [.int .i64,.str])),(.rd,.list (.agg [.int .i64,.str]))],[.bool],true,fun _=>True,fun ps=>[.bool (eqL ze (nth ps 0).L (nth ps 1).L)],fun _=>[]⟩
theorem zGC:zh Tryz.prog 118 yS:=by
 refine zP [0,1,4,5,12,13] [.tmp 4] (zD (zB [])) mixed Tryz.func118 rfl (by decide) rfl (by decide) rfl ?_
 intro ps hT hpre W hW
 simp only[yS,TyA,Ty,Tys] at hT hpre
 obtain⟨_,_,rfl,⟨es,rfl,hes,tes⟩,_,_,rfl,⟨fs,rfl,hfs,tfs⟩,rfl⟩:=hT
 refine hW.vc [(6,[],tkN [0,1,2,3,4,5,6,7,8] .done)] _ _ ?_
 simp[-List.getD_eq_getElem?_getD,yS]
 refine fun _ _=>⟨fun h3=>zAX (by omega),fun h3 _=>?_⟩
 refine hW.loopS _ _ _ [.sl 13 .dp (.int .i64)] (fun ys=>∃i:Nat,ys=[.int .i64 i]∧i≤es.length∧eqL ze es fs=eqL ze (es.drop i) (fs.drop i)) (fun ys=>es.length - (nth ys 0).I.toNat) ?_ ?_
 ·simp[-List.getD_eq_getElem?_getD,yS]
  exact⟨0,rfl,by omega,by simp⟩
 ·rintro ys ⟨i,rfl,h4,h5⟩
  refine hW.vc [(6,[],tkN [0,1,2,3,4,5,6,7,8] .done)] _ _ ?_
  simp[-List.getD_eq_getElem?_getD,yS]
  refine⟨fun h6=>⟨by decide +kernel,h6,fun _ _ _=>⟨by omega,fun _ _ _=>⟨by decide +kernel,fun h7=>?_,fun h7 h8=>?_⟩⟩⟩,fun h6=>?_⟩
  ·have hx:ze (nth es i) (nth fs i)=false:=zGM fun a b=>by
    rcases h7 with h7 | h7
    ·exact h7 a
    ·exact h7 b
   rw[h5,zG h6,zG (by omega:i < fs.length),eqL,hx,Bool.false_and]
  ·rw[zC (by omega)]
   refine⟨⟨i+1,by omega,by omega,?_⟩,by omega⟩
   rw[h5,zG h6,zG (by omega:i < fs.length),eqL,zGL h7 h8,Bool.true_and]
  ·rw[h5,List.drop_eq_nil_of_le h6,List.drop_eq_nil_of_le (by omega)];rfl
def mgX(cnt:Int)(e:PV):Bool:=!mgB (yk e.A) || decide (cnt≤(yk e.A).frm) || decide (cnt≤(yk e.A).to)
theorem zIA(w:Int)(e:PV):mgX w (.agg [.int .i64 (nth e.A 0).I,.int .i64 (nth e.A 1).I,.int .i64 (nth e.A 2).I,.int .i64 (nth e.A 3).I,.int .i64 (nth e.A 4).I,.int .i64 (nth e.A 5).I,.int .i64 (nth e.A 6).I,.bool (nth e.A 7).B,.list (nth e.A 8).L])=mgX w e:=rfl
def zu:zJ:=⟨[(.rd,.agg [.int .i64,.int .i64,.int .i64,.int .i64,.int .i64,.int .i64,.int .i64,.bool,.list (.agg [.int .i64,.str])]),(.rd,.box [.int .i64])],[.bool],true,fun _=>True,fun ps=>[.bool (mgX (nth (nth ps 1).A 0).I (nth ps 0))],fun _=>[]⟩
theorem zCc:zh Tryz.prog 120 zu:=by
 refine zP [0,1,2,3] [.tmp 3] (zA (cs:=[]) zFZ (zD (zB []))) mixed Tryz.func120 rfl (by decide) rfl (by decide) rfl ?_
 intro ps hT hpre W hW
 simp only[zu,TyA,Ty,Tys] at hT hpre
 obtain⟨_,_,rfl,hm,_,_,rfl,⟨_,rfl,_,_,rfl,⟨w,rfl,hw⟩,rfl⟩,rfl⟩:=hT
 obtain⟨_,rfl,_,_,rfl,⟨m0,rfl,hm0⟩,_,_,rfl,⟨m1,rfl,hm1⟩,_,_,rfl,⟨m2,rfl,hm2⟩,_,_,rfl,⟨m3,rfl,hm3⟩,_,_,rfl,⟨m4,rfl,hm4⟩,_,_,rfl,⟨m5,rfl,hm5⟩,_,_,rfl,⟨m6,rfl,hm6⟩,_,_,rfl,⟨m7,rfl⟩,_,_,rfl,⟨m8,rfl,hm8,tm8⟩,rfl⟩:=hm
 refine hW.vc [] _ _ ?_
 simp[-List.getD_eq_getElem?_getD,zu,zY,yk,mgX]
 rfl
def zR:zJ:=⟨[(.rd,.list (.agg [.int .i64,.int .i64,.int .i64,.int .i64,.int .i64,.int .i64,.int .i64,.bool,.list (.agg [.int .i64,.str])])),(.rd,.fn 120 [.box [.int .i64]])],[.int .i64],true,fun _=>True,fun ps=>[.int .i64 (zBA (mgX (nth (nth (nth ps 1).A 0).A 0).I) 0 (nth ps 0).L)],fun _=>[]⟩
theorem yt:zh Tryz.prog 165 zR:=by
 refine zP [0,1,4,5,7,8] [.tmp 4] (zA (cs:=[]) zCc (zD (zB []))) mixed Tryz.func165 rfl (by decide) rfl (by decide) rfl ?_
 intro ps hT hpre W hW
 simp only[zR,TyA,Ty,Tys] at hT hpre
 obtain⟨_,_,rfl,⟨es,rfl,he,hes⟩,_,_,rfl,⟨_,rfl,_,_,rfl,⟨_,rfl,_,_,rfl,⟨w,rfl,hw⟩,rfl⟩,rfl⟩,rfl⟩:=hT
 refine hW.vc [] _ _ ?_
 simp[-List.getD_eq_getElem?_getD,zR,zu]
 intro h1
 refine hW.loopS _ _ _ [.sl 8 .dp (.int .i64)] (fun ys=>∃i:Nat,ys=[.int .i64 i]∧i≤es.length∧zBA (mgX w) 0 es=zBA (mgX w) i (es.drop i)) (fun ys=>es.length - (nth ys 0).I.toNat) ?_ ?_
 ·simp[-List.getD_eq_getElem?_getD,zR,zu]
  exact⟨0,rfl,by simp,by simp⟩
 ·rintro ys ⟨i,rfl,h2,h3⟩
  refine hW.vc [] _ _ ?_
  simp[-List.getD_eq_getElem?_getD,zR,zu,zIA]
  refine⟨fun h4=>⟨h4,fun _ _ _ _ _ _ _ _ _ _ _ _ _ _ _=>⟨fun h5=>?_,fun h5=>?_⟩⟩,fun h4=>?_⟩
  ·rw[h3,zG h4];simp[zBA,h5]
  ·rw[zC (by omega)]
   refine⟨⟨i+1,by omega,by omega,?_⟩,by omega⟩
   rw[h3,zG h4];simp[zBA,h5]
  ·rw[h3,List.drop_eq_nil_of_le h4];rfl
def zO:zJ:=⟨[(.rd,.list (.agg [.int .i64,.int .i64,.int .i64,.int .i64,.int .i64,.int .i64,.int .i64,.bool,.list (.agg [.int .i64,.str])])),(.rd,.fn 120 [.box [.int .i64]])],[.bool],true,fun _=>True,fun ps=>[.bool ((nth ps 0).L.any (mgX (nth (nth (nth ps 1).A 0).A 0).I))],fun _=>[]⟩
theorem yV:zh Tryz.prog 119 zO:=by
 refine zP [0,1,4] [.tmp 4] (zA (cs:=[120]) yt (zD (zB []))) mixed Tryz.func119 rfl (by decide) rfl (by decide) rfl ?_
 intro ps hT hpre W hW
 simp only[zO,TyA,Ty,Tys] at hT hpre
 obtain⟨_,_,rfl,⟨es,rfl,he,hes⟩,_,_,rfl,⟨_,rfl,_,_,rfl,⟨_,rfl,_,_,rfl,⟨w,rfl,hw⟩,rfl⟩,rfl⟩,rfl⟩:=hT
 refine hW.vc [] _ _ ?_
 simp[-List.getD_eq_getElem?_getD,zO,zR]
 exact zDA _ _ _
def zAU(s:List UInt8):Bool:=decide (s.length > 400)
def zt:zJ:=⟨[(.rd,.str)],[.bool],true,fun _=>True,fun ps=>[.bool (zAU (nth ps 0).S)],fun _=>[]⟩
theorem zCb:zh Tryz.prog 123 zt:=by
 refine zP [0,2] [.tmp 2] (zD (zB [])) mixed Tryz.func123 rfl (by decide) rfl (by decide) rfl ?_
 intro ps hT hpre W hW
 simp only[zt,TyA,Ty,Tys] at hT hpre
 obtain⟨_,_,rfl,⟨l,rfl,hl⟩,rfl⟩:=hT
 refine hW.vc [] _ _ ?_
 simp[-List.getD_eq_getElem?_getD,zt]
 exact fun _=>by unfold zAU;congr 1;simp only[eq_iff_iff];omega
def zQ:zJ:=⟨[(.rd,.list .str),(.rd,.fn 123 [])],[.int .i64],true,fun ps=>True,fun ps=>[.int .i64 (zBA (fun e=>zAU e.S) 0 (nth ps 0).L)],fun _=>[]⟩
theorem yr:zh Tryz.prog 167 zQ:=by
 refine zP [0,1,4,5,7,8] [.tmp 4] (zA (cs:=[]) zCb (zD (zB []))) mixed Tryz.func167 rfl (by decide) rfl (by decide) rfl ?_
 intro ps hT hpre W hW
 simp only[zQ,TyA,Ty,Tys] at hT hpre
 obtain⟨_,_,rfl,⟨es,rfl,he,hes⟩,_,_,rfl,⟨_,rfl,rfl⟩,rfl⟩:=hT
 refine hW.vc [] _ _ ?_
 simp[-List.getD_eq_getElem?_getD,zQ,zt]
 intro h1
 refine hW.loopS _ _ _ [.sl 8 .dp (.int .i64)] (fun ys=>∃i:Nat,ys=[.int .i64 i]∧i≤es.length∧zBA (fun e=>zAU e.S) 0 es=zBA (fun e=>zAU e.S) i (es.drop i)) (fun ys=>es.length - (nth ys 0).I.toNat) ?_ ?_
 ·simp[-List.getD_eq_getElem?_getD,zQ,zt]
  exact⟨0,rfl,by simp,by simp⟩
 ·rintro ys ⟨i,rfl,h2,h3⟩
  refine hW.vc [] _ _ ?_
  simp[-List.getD_eq_getElem?_getD,zQ,zt]
  refine⟨fun h4=>⟨h4,fun _=>⟨fun h5=>?_,fun h5=>?_⟩⟩,fun h4=>?_⟩
  ·rw[h3,zG h4];simp[zBA,h5]
  ·rw[zC (by omega)]
   refine⟨⟨i+1,by omega,by omega,?_⟩,by omega⟩
   rw[h3,zG h4];simp[zBA,h5]
  ·rw[h3,List.drop_eq_nil_of_le h4];rfl
def zN:zJ:=⟨[(.rd,.list .str),(.rd,.fn 123 [])],[.bool],true,fun ps=>True,fun ps=>[.bool ((nth ps 0).L.any (fun e=>zAU e.S))],fun _=>[]⟩
theorem yU:zh Tryz.prog 122 zN:=by
 refine zP [0,1,4] [.tmp 4] (zA (cs:=[123]) yr (zD (zB []))) mixed Tryz.func122 rfl (by decide) rfl (by decide) rfl ?_
 intro ps hT hpre W hW
 simp only[zN,TyA,Ty,Tys] at hT hpre
 obtain⟨_,_,rfl,⟨es,rfl,he,hes⟩,_,_,rfl,⟨_,rfl,rfl⟩,rfl⟩:=hT
 refine hW.vc [] _ _ ?_
 simp[-List.getD_eq_getElem?_getD,zN,zQ]
 exact zDA (fun e=>zAU e.S) es 0
def rcB(n s:PV):Bool:=decide ((yP (nth s.A 0).S).2.2=0)&&decide ((yP (nth s.A 0).S).2.1.1=(nth s.A 0).S)&&decide ((yP (nth s.A 0).S).2.1.2=(nth s.A 1).I)&&decide ((yP (nth s.A 0).S).1.t=(z8 n.A).term)&&decide ((yP (nth s.A 0).S).1.v=(z8 n.A).vote)&&eqL ze (yP (nth s.A 0).S).1.log (z8 n.A).log
def atB(cnt:Int)(i:Nat)(n s:PV):Bool:=(zB9 (z8 n.A)&&decide ((z8 n.A).id=i)&&decide ((z8 n.A).nodes=cnt)&&zDz (nth s.A 0).S (nth s.A 1).I&&decide ((nth s.A 1).I=(nth s.A 0).S.length))&&rcB n s
def nsB(cnt:Int):Nat→List PV→List PV→Bool
 | i,n :: ns,s :: ss=>atB cnt i n s&&nsB cnt (i+1) ns ss
 | _,_,_=>true
def zCw(ns ss ws ds:List PV):Bool:=(inB ns.length 1 5&&decide (ss.length=ns.length)&&leB ws.length 60&&leB ds.length 60)&&nsB ns.length 0 ns ss&&(!ws.any (mgX ns.length)&&!ds.any fun e=>zAU e.S)
theorem zVB{cnt:Int}{i:Nat}{n s:PV}(h:(((zB9 (z8 n.A)=false∨¬(nth n.A 0).I=i)∨¬(nth n.A 1).I=cnt)∨zDz (nth s.A 0).S (nth s.A 1).I=false)∨¬(nth s.A 1).I=(nth s.A 0).S.length):atB cnt i n s=false:=by
 have e:(zB9 (z8 n.A)&&decide ((z8 n.A).id=i)&&decide ((z8 n.A).nodes=cnt)&&zDz (nth s.A 0).S (nth s.A 1).I&&decide ((nth s.A 1).I=(nth s.A 0).S.length))=false:=by
  rcases h with (((h | h) | h) | h) | h
  ·rw[h];simp
  ·have:decide ((z8 n.A).id=i)=false:=decide_eq_false h
   rw[this];simp
  ·have:decide ((z8 n.A).nodes=cnt)=false:=decide_eq_false h
   rw[this];simp
  ·rw[h];simp
  ·rw[decide_eq_false h];simp
 rw[atB,e,Bool.false_and]
theorem zR0{n s:PV}(h:((((¬(yP (nth s.A 0).S).2.2=0∨¬(yP (nth s.A 0).S).2.1.1=(nth s.A 0).S∨¬(yP (nth s.A 0).S).2.1.2=(nth s.A 1).I)∨¬(yP (nth s.A 0).S).1.t=(nth n.A 2).I)∨¬(yP (nth s.A 0).S).1.v=(nth n.A 3).I)∨eqL ze (yP (nth s.A 0).S).1.log (nth n.A 6).L=false)):rcB n s=false:=by
 unfold rcB
 rcases h with (((h | h | h) | h) | h) | h
 ·rw[decide_eq_false h];simp
 ·rw[decide_eq_false h];simp
 ·rw[decide_eq_false h];simp
 ·have:decide ((yP (nth s.A 0).S).1.t=(z8 n.A).term)=false:=decide_eq_false h
  rw[this];simp
 ·have:decide ((yP (nth s.A 0).S).1.v=(z8 n.A).vote)=false:=decide_eq_false h
  rw[this];simp
 ·have:eqL ze (yP (nth s.A 0).S).1.log (z8 n.A).log=false:=h
  rw[this];simp
theorem zOT{cnt:Int}{i:Nat}{n s:PV}(h1:zB9 (z8 n.A)=true)(h2:(nth n.A 0).I=i)(h3:(nth n.A 1).I=cnt)(h4:zDz (nth s.A 0).S (nth s.A 1).I=true)(h5:(nth s.A 1).I=(nth s.A 0).S.length):atB cnt i n s=rcB n s:=by
 have a2:decide ((z8 n.A).id=i)=true:=decide_eq_true h2
 have a3:decide ((z8 n.A).nodes=cnt)=true:=decide_eq_true h3
 rw[atB,h1,a2,a3,h4,decide_eq_true h5];rfl
theorem zRz{n s:PV}(h1:(yP (nth s.A 0).S).2.2=0)(h2:(yP (nth s.A 0).S).2.1.1=(nth s.A 0).S)(h3:(yP (nth s.A 0).S).2.1.2=(nth s.A 1).I)(h4:(yP (nth s.A 0).S).1.t=(nth n.A 2).I)(h5:(yP (nth s.A 0).S).1.v=(nth n.A 3).I)(h6:eqL ze (yP (nth s.A 0).S).1.log (nth n.A 6).L=true):rcB n s=true:=by
 have a4:decide ((yP (nth s.A 0).S).1.t=(z8 n.A).term)=true:=decide_eq_true h4
 have a5:decide ((yP (nth s.A 0).S).1.v=(z8 n.A).vote)=true:=decide_eq_true h5
 have a6:eqL ze (yP (nth s.A 0).S).1.log (z8 n.A).log=true:=h6
 rw[rcB,decide_eq_true h1,decide_eq_true h2,decide_eq_true h3,a4,a5,a6];rfl
theorem zH4{cnt:Int}{i:Nat}{ns ss:List PV}(h:i < ns.length)(h2:i < ss.length):nsB cnt i (ns.drop i) (ss.drop i)=(atB cnt i (nth ns i) (nth ss i)&&nsB cnt (i+1) (ns.drop (i+1)) (ss.drop (i+1))):=by
 rw[zG h,zG h2,nsB]
theorem zCt{ns ss ws ds:List PV}(h:nsB ns.length 0 ns ss=false):zCw ns ss ws ds=false:=by rw[zCw,h];simp
theorem zFd{ns ss ws ds:List PV}(h:((inB ns.length 1 5=false∨¬(ss.length:Int)=ns.length)∨60 < (ws.length:Int))∨60 < (ds.length:Int)):zCw ns ss ws ds=false:=by
 have e:(inB ns.length 1 5&&decide (ss.length=ns.length)&&leB ws.length 60&&leB ds.length 60)=false:=by
  rcases h with ((h | h) | h) | h
  ·rw[h];simp
  ·have:decide (ss.length=ns.length)=false:=decide_eq_false (by omega)
   rw[this];simp
  ·have:leB ws.length 60=false:=by simp[leB];omega
   rw[this];simp
  ·have:leB ds.length 60=false:=by simp[leB];omega
   rw[this];simp
 rw[zCw,e,Bool.false_and,Bool.false_and]
theorem zGU{ns ss ws ds:List PV}(h1:inB ns.length 1 5=true)(h2:(ss.length:Int)=ns.length)(h3:(ws.length:Int)≤60)(h4:(ds.length:Int)≤60):zCw ns ss ws ds=(nsB ns.length 0 ns ss&&(!ws.any (mgX ns.length)&&!ds.any fun e=>zAU e.S)):=by
 have a2:decide (ss.length=ns.length)=true:=decide_eq_true (by omega)
 have a3:leB ws.length 60=true:=by simp[leB];omega
 have a4:leB ds.length 60=true:=by simp[leB];omega
 rw[zCw,h1,a2,a3,a4];rfl
theorem zIj{p:PV→Bool}{es:List PV}:decide (∀x:PV,x∈es→p x=false)=!es.any p:=by
 rw[Bool.eq_iff_iff];simp
def zI:zJ:=⟨[(.rd,.agg [.list (.agg [.int .i64,.int .i64,.int .i64,.int .i64,.int .i64,.bool,.list (.agg [.int .i64,.str]),.int .i64,.int .i64,.int .i64,.list (.int .i64),.list (.int .i64),.list (.int .i64)]),.list (.agg [.str,.int .i64]),.list (.agg [.int .i64,.int .i64,.int .i64,.int .i64,.int .i64,.int .i64,.int .i64,.bool,.list (.agg [.int .i64,.str])]),.list .str])],[.bool],true,fun _=>True,fun ps=>[.bool (zCw (nth (nth ps 0).A 0).L (nth (nth ps 0).A 1).L (nth (nth ps 0).A 2).L (nth (nth ps 0).A 3).L)],fun _=>[]⟩
theorem zBi:zh Tryz.prog 75 zI:=by
 refine zP [0,1,2,3,4,5,6,7,8,9,36,37,38] [.tmp 2] (zA (cs:=[123]) yU (zA (cs:=[120]) yV (zA (cs:=[]) zGC (zA (cs:=[]) zEh (zA (cs:=[]) zEI (zA (cs:=[]) zHa (zA (cs:=[]) zA9 (zD (zB []))))))))) mixed Tryz.func75 rfl (by decide) rfl (by decide) rfl ?_
 intro ps hT hpre W hW
 simp only[zI,TyA,Ty,Tys] at hT hpre
 obtain⟨_,_,rfl,⟨_,rfl,_,_,rfl,⟨ns,rfl,hns,tns⟩,_,_,rfl,⟨ss,rfl,hss,tss⟩,_,_,rfl,⟨ws,rfl,hws,tws⟩,_,_,rfl,⟨ds,rfl,hds,tds⟩,rfl⟩,rfl⟩:=hT
 refine hW.vc [] _ _ ?_
 simp[-List.getD_eq_getElem?_getD,zI,zT,zo,zW,zAE,yS,zO,zN]
 refine fun _ _ _ _=>⟨fun h1=>zFd h1,fun h1 h2 h3 h4 _=>?_⟩
 have hC:=zGU h1 h2 h3 h4
 refine hW.loopS _ _ _ [.sl 38 .dp (.int .i64)] (fun ys=>∃i:Nat,ys=[.int .i64 i]∧i≤ns.length∧nsB ns.length 0 ns ss=nsB ns.length i (ns.drop i) (ss.drop i)) (fun ys=>ns.length - (nth ys 0).I.toNat) ?_ ?_
 ·simp[-List.getD_eq_getElem?_getD,zI,zT,zo,zW,zAE,yS,zO,zN]
  exact⟨0,rfl,by simp,by simp⟩
 ·rintro ys ⟨i,rfl,h5,h6⟩
  refine hW.vc [] _ _ ?_
  simp[-List.getD_eq_getElem?_getD,zI,zT,zo,zW,zAE,yS,zO,zN,zF3]
  refine⟨fun h7=>⟨h7,?_⟩,fun h7=>?_⟩
  ·have h8:i < ss.length:=by omega
   rw[zH4 h7 h8] at h6
   intros
   refine⟨h8,?_⟩
   intros
   refine⟨fun q=>zCt (by rw[h6,zVB q,Bool.false_and]),fun q1 q2 q3 q4 q5=>?_⟩
   rw[zOT q1 q2 q3 q4 q5] at h6
   have hl:(nth (nth ss i).A 0).S.length≤60000:=by
    simp only[zDz,Bool.and_eq_true,leB,decide_eq_true_eq] at q4
    omega
   refine⟨by omega,fun q=>⟨q,by decide +kernel⟩,fun q=>zCt (by rw[h6,zR0 q,Bool.false_and]),fun r1 r2 r3 r4 r5 r6=>?_⟩
   rw[zRz r1 r2 r3 r4 r5 r6,Bool.true_and] at h6
   rw[zC (by omega)]
   exact⟨⟨i+1,by omega,by omega,h6⟩,by omega⟩
  ·rw[List.drop_eq_nil_of_le h7] at h6
   rw[hC,h6,zIj]
   rfl
theorem zVA{cnt:Int}{i:Nat}{n s:PV}(h:(((¬(nth n.A 0).I=i∨¬(nth n.A 1).I=cnt)∨zB9 (z8 n.A)=false)∨zDz (nth s.A 0).S (nth s.A 1).I=false)∨¬(nth s.A 1).I=(nth s.A 0).S.length):atB cnt i n s=false:=by
 refine zVB ?_
 rcases h with (((h | h) | h) | h) | h
 ·exact .inl (.inl (.inl (.inr h)))
 ·exact .inl (.inl (.inr h))
 ·exact .inl (.inl (.inl (.inl h)))
 ·exact .inl (.inr h)
 ·exact .inr h
theorem zMO{b:List UInt8}(h:(yP b).2.2=0)(h2:(yP b).2.1.2=b.length):(yP b).2.1.1=b:=by
 unfold yP at h h2 ⊢
 split at h
 ·simp at h
 ·rename_i h8
  rw[if_neg h8] at h2 ⊢
  split at h
  ·rename_i h9
   rw[if_pos h9] at h2 ⊢
   simp only at h2 ⊢
   exact List.take_of_length_le (by omega)
  ·simp at h
theorem zUX{n s:PV}(h5:(nth s.A 1).I=(nth s.A 0).S.length)(h:(¬(zEO (nth s.A 0).S (nth s.A 1).I).2.2=0∨¬(zEO (nth s.A 0).S (nth s.A 1).I).2.1.2=(nth s.A 1).I)∨(decide ((zEO (nth s.A 0).S (nth s.A 1).I).1.t=(nth n.A 2).I)=false∨decide ((zEO (nth s.A 0).S (nth s.A 1).I).1.v=(nth n.A 3).I)=false)∨eqL ze (zEO (nth s.A 0).S (nth s.A 1).I).1.log (nth n.A 6).L=false):rcB n s=false:=by
 by_cases hc:(yP (nth s.A 0).S).2.2=0
 ·rw[zRy _ hc] at h
  refine zR0 ?_
  rcases h with (h | h) | (h | h) | h
  ·exact .inl (.inl (.inl (.inl h)))
  ·exact .inl (.inl (.inl (.inr (.inr h))))
  ·exact .inl (.inl (.inr (of_decide_eq_false h)))
  ·exact .inl (.inr (of_decide_eq_false h))
  ·exact .inr h
 ·exact zR0 (.inl (.inl (.inl (.inl hc))))
theorem zbM{n s:PV}(h5:(nth s.A 1).I=(nth s.A 0).S.length)(h1:(zEO (nth s.A 0).S (nth s.A 1).I).2.2=0)(h2:(zEO (nth s.A 0).S (nth s.A 1).I).2.1.2=(nth s.A 1).I)(h3:decide ((zEO (nth s.A 0).S (nth s.A 1).I).1.t=(nth n.A 2).I)=true)(h4:decide ((zEO (nth s.A 0).S (nth s.A 1).I).1.v=(nth n.A 3).I)=true)(h6:eqL ze (zEO (nth s.A 0).S (nth s.A 1).I).1.log (nth n.A 6).L=true):rcB n s=true:=by
 have hc:(yP (nth s.A 0).S).2.2=0:=by rw[zKH] at h1;exact h1
 rw[zRy _ hc] at h2 h3 h4 h6
 exact zRz hc (zMO hc (by rw[h2,h5])) h2 (of_decide_eq_true h3) (of_decide_eq_true h4) h6
end
section
variable [zS]
theorem zEp:∀{es fs:List PV},(∀e∈es,isE e)→(∀e∈fs,isE e)→eqL ze es fs=true→es=fs
 | [],[],_,_,_=>rfl
 | [],_ :: _,_,_,h=>by simp[eqL] at h
 | _ :: _,[],_,_,h=>by simp[eqL] at h
 | a :: es,b :: fs,h1,h2,h=>by
  rw[eqL,Bool.and_eq_true] at h
  rw[zQQ (h1 a (by simp)) (h2 b (by simp)) h.1,zEp (fun e he=>h1 e (by simp[he])) (fun e he=>h2 e (by simp[he])) h.2]
theorem zEe{cnt:Int}:∀{ns ss:List PV} {i:Nat},ss.length=ns.length→nsB cnt i ns ss=true→∀j,j < ns.length→atB cnt (i+j) (nth ns j) (nth ss j)=true
 | [],_,_,_,_,j,hj=>by simp at hj
 | n :: ns,[],_,h,_,_,_=>by simp at h
 | n :: ns,s :: ss,i,h,ha,j,hj=>by
  rw[nsB,Bool.and_eq_true] at ha
  cases j with
  | zero=>exact ha.1
  | succ j=>
   have:=zEe (by simpa using h) ha.2 j (by simpa using hj)
   rw[zF,zF,show i+(j+1)=i+1+j by omega]
   exact this
theorem zH2{s:ST}(hs:∀e∈s.log,isE e):∀{rs:List PV},∀e∈(zBK s rs).1.log,isE e:=by
 intro rs
 induction rs generalizing s with
 | nil=>exact hs
 | cons r rs ih=>
  rw[zBK]
  split
  ·refine ih ?_
   unfold zOo
   cases hc:zNs s r.S with
   | none=>simp[ST.no]
   | some o=>
    show ∀e∈o.log,isE e
    unfold zNs at hc
    split at hc
    ·cases hc
    ·unfold zOU at hc
     split at hc
     ·split at hc
      ·cases hc;exact hs
      ·cases hc
     ·split at hc
      ·split at hc
       ·cases hc;exact fun e he=>hs e (List.mem_of_mem_take he)
       ·cases hc
      ·split at hc
       ·split at hc
        ·cases hc
         intro e he
         rcases List.mem_append.1 he with he | he
         ·exact hs e he
         ·exact⟨_,_,List.mem_singleton.1 he⟩
        ·cases hc
       ·cases hc
  ·exact hs
theorem zKY{c:CL}(hT:ClT c)(h:zCw c.ns c.ss c.ws c.ds=true):ClI c:=by
 rw[zCw] at h
 simp only[Bool.and_eq_true,Bool.not_eq_true',zk,leB,decide_eq_true_eq] at h
 obtain⟨⟨⟨⟨⟨h1,h2⟩,h3⟩,h4⟩,h5⟩,h6,h7⟩:=h
 refine⟨by omega,by omega,h2,fun i hi=>?_,by omega,fun e he=>?_,by omega,fun e he=>?_⟩
 ·obtain⟨x,hx,he⟩:=hT.n _ (zb hi)
  obtain⟨b,n,hs⟩:=hT.s _ (zb (by omega:i < c.ss.length))
  have ha:=zEe h2 h5 i hi
  rw[hx,hs,Nat.zero_add] at ha
  rw[atB,Bool.and_eq_true,zK5] at ha
  obtain⟨ha,hr⟩:=ha
  simp only[Bool.and_eq_true,decide_eq_true_eq] at ha
  obtain⟨⟨⟨⟨a1,a2⟩,a3⟩,a4⟩,a5⟩:=ha
  replace a5:n=b.length:=a5
  rw[rcB,zK5] at hr
  simp only[Bool.and_eq_true,decide_eq_true_eq] at hr
  obtain⟨⟨⟨⟨⟨r1,r2⟩,r3⟩,r4⟩,r5⟩,r6⟩:=hr
  replace r1:(yP b).2.2=0:=r1
  replace r3:(yP b).2.1.2=n:=r3
  replace r4:(yP b).1.t=x.term:=r4
  replace r5:(yP b).1.v=x.vote:=r5
  replace r6:eqL ze (yP b).1.log x.log=true:=r6
  subst a5
  have hst:zDz b b.length=true:=a4
  simp only[zDz,Bool.and_eq_true,leB,decide_eq_true_eq] at hst
  refine⟨x,b,hx,hs,zH6 a1,a2,a3,he,by omega,?_⟩
  have hgo:(zBw b).2.1=b.length∧(zBK ST.one (zBw b).1).2=true∧(yP b).1=(zBK ST.one (zBw b).1).1:=by
   unfold yP at r1 r3 ⊢
   split at r1
   ·simp at r1
   ·rename_i h8
    rw[if_neg h8] at r3 ⊢
    split at r1
    ·rename_i h9
     rw[if_pos h9] at r3 ⊢
     have hq:((zBw b).2.1:Int)=b.length:=r3
     exact⟨by omega,h9,rfl⟩
    ·simp at r1
  have hl:(yP b).1.log=x.log:=by
   refine zEp ?_ he r6
   rw[hgo.2.2]
   exact zH2 (by simp[ST.one])
  refine⟨hgo.1,Prod.ext ?_ hgo.2.1⟩
  rw[←hgo.2.2]
  show(yP b).1=zD0 x
  cases hq:(yP b).1 with
  | mk t v l=>rw[hq] at r4 r5 hl;simp only at r4 r5 hl;rw[r4,r5,hl];rfl
 ·obtain⟨m,rfl,hm⟩:=hT.m e he
  have:=List.any_eq_false.1 h6 _ he
  have hX:mgX c.ns.length m.pv=false:=by simpa using this
  rw[mgX,zMS] at hX
  simp only[Bool.or_eq_false_iff,Bool.not_eq_false',decide_eq_false_iff_not] at hX
  exact⟨m,rfl,hX.1.1,by omega,by omega,hm⟩
 ·obtain⟨d,rfl⟩:=hT.d e he
  have:=List.any_eq_false.1 h7 _ he
  exact⟨d,rfl,by simp[zAU,zEW] at this;omega⟩
end
section
variable [zS]
def szF(f:PV→Int→Int):List PV→Int→Int
 | [],l=>l
 | e :: es,l=>if f e l < 0 then -1 else szF f es (f e l)
def zEV(f:PV→Int→Int)(es:List PV)(l:Int):Int:=if l - es.length < 0 then -1 else szF f es (l - es.length)
theorem zLu{f:PV→Int→Int}(hf:∀e l,0≤l→-1≤f e l∧f e l≤l):∀{es:List PV} {l:Int},0≤l→-1≤szF f es l∧szF f es l≤l∧(0≤szF f es l→∀e∈es,∃x,0≤x∧x≤l∧0≤f e x)
 | [],l,h=>⟨by simp only[szF];omega,by simp only[szF];omega,fun _ e he=>by simp at he⟩
 | e :: es,l,h=>by
  have h1:=hf e l h
  simp only[szF]
  split
  ·exact⟨by omega,by omega,fun h=>by omega⟩
  ·rename_i h2
   have h3:=zLu hf (es:=es) (l:=f e l) (by omega)
   refine⟨h3.1,by omega,fun h4 x hx=>?_⟩
   rcases List.mem_cons.1 hx with rfl | hx
   ·exact⟨l,h,Int.le_refl _,by omega⟩
   ·obtain⟨y,y1,y2,y3⟩:=h3.2.2 h4 x hx
    exact⟨y,y1,by omega,y3⟩
theorem zHu{f:PV→Int→Int}(hf:∀e l,0≤l→-1≤f e l∧f e l≤l){es:List PV}{l:Int}(h:0≤l):-1≤zEV f es l∧zEV f es l≤l∧(0≤zEV f es l→(es.length:Int)≤l∧∀e∈es,∃x,0≤x∧x≤l∧0≤f e x):=by
 unfold zEV
 split
 ·omega
 ·have h3:=zLu hf (es:=es) (l:=l - es.length) (by omega)
  refine⟨h3.1,by omega,fun h4=>⟨by omega,fun e he=>?_⟩⟩
  obtain⟨y,y1,y2,y3⟩:=h3.2.2 h4 e he
  exact⟨y,y1,by omega,y3⟩
def zKw(e:PV)(l:Int):Int:=szN e.A l
theorem zKA(e:PV)(l:Int)(h:0≤l):-1≤zKw e l∧zKw e l≤l:=by
 have a1:=zGm zCZ (es:=(nth e.A 6).L) h
 unfold zKw szN szQ
 split
 ·omega
 ·rename_i q1
  have a2:=zDx (n:=(nth e.A 10).L.length) (Int.not_lt.1 q1)
  split
  ·omega
  ·rename_i q2
   have a3:=zDx (n:=(nth e.A 11).L.length) (Int.not_lt.1 q2)
   split
   ·omega
   ·rename_i q3
    have a4:=zDx (n:=(nth e.A 12).L.length) (Int.not_lt.1 q3)
    omega
def zNz(e:PV)(l:Int):Int:=zFH l (nth e.A 0).S.length
theorem zMF(e:PV)(l:Int)(h:0≤l):-1≤zNz e l∧zNz e l≤l:=by have:=zDx (n:=(nth e.A 0).S.length) h;unfold zNz;omega
def zPV(e:PV)(l:Int):Int:=zLo zEb (nth e.A 8).L l
theorem zMG(e:PV)(l:Int)(h:0≤l):-1≤zPV e l∧zPV e l≤l:=by have:=zGm zCZ (es:=(nth e.A 8).L) h;unfold zPV;omega
def zDo:zJ:=⟨[(.rd,.list (.agg [.int .i64,.int .i64,.int .i64,.int .i64,.int .i64,.bool,.list (.agg [.int .i64,.str]),.int .i64,.int .i64,.int .i64,.list (.int .i64),.list (.int .i64),.list (.int .i64)])),(.rd,.int .i64)],[.int .i64],true,fun ps=>0≤(nth ps 1).I,fun ps=>[.int .i64 (zEV zKw (nth ps 0).L (nth ps 1).I)],fun _=>[]⟩
theorem zQD:zh Tryz.prog 66 zDo:=by
 refine zP [0,1,4,5] [.tmp 4] (zA (cs:=[]) zSH (zD (zB []))) mixed Tryz.func66 rfl (by decide) rfl (by decide) rfl ?_
 intro ps hT hpre W hW
 simp only[zDo,TyA,Ty,Tys] at hT hpre
 obtain⟨_,_,rfl,⟨es,rfl,hes,tes⟩,_,_,rfl,⟨l,rfl,hl⟩,rfl⟩:=hT
 simp only[zE,zF,yp] at hpre
 refine hW.vc [] _ _ ?_
 simp[-List.getD_eq_getElem?_getD,zDo,zE4]
 intro h1
 rw[zHR] at hl
 rw[zC (by omega)]
 refine⟨fun h=>by simp[zEV,h],fun h=>?_⟩
 refine hW.loopS _ _ _ [.sl 1 .dp (.int .i64),.sl 5 .dp (.int .i64)] (fun ys=>∃(x:Int) (i:Nat),ys=[.int .i64 x,.int .i64 i]∧0≤x∧x≤l∧i≤es.length∧zEV zKw es l=szF zKw (es.drop i) x) (fun ys=>es.length - (nth ys 1).I.toNat) ?_ ?_
 ·simp[-List.getD_eq_getElem?_getD,zDo,zE4]
  exact⟨_,0,⟨rfl,rfl⟩,h,by omega,by simp,by simp[zEV,Int.not_lt.2 h]⟩
 ·rintro ys ⟨x,i,rfl,h2,h3,h4,h5⟩
  refine hW.vc [] _ _ ?_
  simp[-List.getD_eq_getElem?_getD,zDo,zE4]
  refine fun _=>⟨fun h6=>⟨h6,?_⟩,fun h6=>by rw[h5,List.drop_eq_nil_of_le h6];rfl⟩
  intros
  have h7:=(zKA (nth es i) x h2)
  rw[zG h6,szF] at h5
  obtain⟨y,hy⟩:∃y,y=zKw (nth es i) x:=⟨_,rfl⟩
  have hy':=hy
  unfold zKw at hy'
  rw[←hy] at h5 h7
  refine⟨h2,fun h8=>?_,fun h8=>⟨⟨y,i+1,⟨hy'.symm,?_⟩,?_,by omega,by omega,?_⟩,?_⟩⟩
  ·rw[h5,if_pos (by rw[hy'];exact h8)]
  ·rw[zC (by omega)];omega
  ·rw[hy'];exact h8
  ·rw[h5,if_neg (by rw[hy'];exact Int.not_lt.2 h8)]
  ·rw[zC (by omega)];omega
def zDn:zJ:=⟨[(.rd,.agg [.str,.int .i64]),(.rd,.int .i64)],[.int .i64],true,fun ps=>0≤(nth ps 1).I,fun ps=>[.int .i64 (zFH (nth ps 1).I (nth (nth ps 0).A 0).S.length)],fun _=>[]⟩
theorem zQC:zh Tryz.prog 106 zDn:=by
 refine zP [0,1,2,4] [.tmp 4] (zD (zB [])) mixed Tryz.func106 rfl (by decide) rfl (by decide) rfl ?_
 intro ps hT hpre W hW
 simp only[zDn,TyA,Ty,Tys] at hT hpre
 obtain⟨_,_,rfl,⟨_,rfl,_,_,rfl,⟨c,rfl,hc⟩,_,_,rfl,⟨y,rfl,hy⟩,rfl⟩,_,_,rfl,⟨l,rfl,hl⟩,rfl⟩:=hT
 simp only[zE,zF,yp] at hpre
 refine hW.vc [] _ _ ?_
 simp[-List.getD_eq_getElem?_getD,zDn]
 intro h1
 rw[zHR] at hl
 rw[zC (by omega)]
 exact⟨fun h=>by rw[zFH,if_pos h],fun h=>by rw[zFH,if_neg (Int.not_lt.2 h)]⟩
def zC0:zJ:=⟨[(.rd,.list (.agg [.str,.int .i64])),(.rd,.int .i64)],[.int .i64],true,fun ps=>0≤(nth ps 1).I,fun ps=>[.int .i64 (zEV zNz (nth ps 0).L (nth ps 1).I)],fun _=>[]⟩
theorem zN8:zh Tryz.prog 67 zC0:=by
 refine zP [0,1,4,5] [.tmp 4] (zA (cs:=[]) zQC (zD (zB []))) mixed Tryz.func67 rfl (by decide) rfl (by decide) rfl ?_
 intro ps hT hpre W hW
 simp only[zC0,TyA,Ty,Tys] at hT hpre
 obtain⟨_,_,rfl,⟨es,rfl,hes,tes⟩,_,_,rfl,⟨l,rfl,hl⟩,rfl⟩:=hT
 simp only[zE,zF,yp] at hpre
 refine hW.vc [] _ _ ?_
 simp[-List.getD_eq_getElem?_getD,zC0,zDn]
 intro h1
 rw[zHR] at hl
 rw[zC (by omega)]
 refine⟨fun h=>by simp[zEV,h],fun h=>?_⟩
 refine hW.loopS _ _ _ [.sl 1 .dp (.int .i64),.sl 5 .dp (.int .i64)] (fun ys=>∃(x:Int) (i:Nat),ys=[.int .i64 x,.int .i64 i]∧0≤x∧x≤l∧i≤es.length∧zEV zNz es l=szF zNz (es.drop i) x) (fun ys=>es.length - (nth ys 1).I.toNat) ?_ ?_
 ·simp[-List.getD_eq_getElem?_getD,zC0,zDn]
  exact⟨_,0,⟨rfl,rfl⟩,h,by omega,by simp,by simp[zEV,Int.not_lt.2 h]⟩
 ·rintro ys ⟨x,i,rfl,h2,h3,h4,h5⟩
  refine hW.vc [] _ _ ?_
  simp[-List.getD_eq_getElem?_getD,zC0,zDn]
  refine fun _=>⟨fun h6=>⟨h6,?_⟩,fun h6=>by rw[h5,List.drop_eq_nil_of_le h6];rfl⟩
  intros
  have h7:=(zMF (nth es i) x h2)
  rw[zG h6,szF] at h5
  obtain⟨y,hy⟩:∃y,y=zNz (nth es i) x:=⟨_,rfl⟩
  have hy':=hy
  unfold zNz at hy'
  rw[←hy] at h5 h7
  refine⟨h2,fun h8=>?_,fun h8=>⟨⟨y,i+1,⟨hy'.symm,?_⟩,?_,by omega,by omega,?_⟩,?_⟩⟩
  ·rw[h5,if_pos (by rw[hy'];exact h8)]
  ·rw[zC (by omega)];omega
  ·rw[hy'];exact h8
  ·rw[h5,if_neg (by rw[hy'];exact Int.not_lt.2 h8)]
  ·rw[zC (by omega)];omega
def zBo:zJ:=⟨[(.rd,.list (.agg [.int .i64,.int .i64,.int .i64,.int .i64,.int .i64,.int .i64,.int .i64,.bool,.list (.agg [.int .i64,.str])])),(.rd,.int .i64)],[.int .i64],true,fun ps=>0≤(nth ps 1).I,fun ps=>[.int .i64 (zEV zPV (nth ps 0).L (nth ps 1).I)],fun _=>[]⟩
theorem zLA:zh Tryz.prog 68 zBo:=by
 refine zP [0,1,4,5] [.tmp 4] (zA (cs:=[]) zMb (zD (zB []))) mixed Tryz.func68 rfl (by decide) rfl (by decide) rfl ?_
 intro ps hT hpre W hW
 simp only[zBo,TyA,Ty,Tys] at hT hpre
 obtain⟨_,_,rfl,⟨es,rfl,hes,tes⟩,_,_,rfl,⟨l,rfl,hl⟩,rfl⟩:=hT
 simp only[zE,zF,yp] at hpre
 refine hW.vc [] _ _ ?_
 simp[-List.getD_eq_getElem?_getD,zBo,zCR]
 intro h1
 rw[zHR] at hl
 rw[zC (by omega)]
 refine⟨fun h=>by simp[zEV,h],fun h=>?_⟩
 refine hW.loopS _ _ _ [.sl 1 .dp (.int .i64),.sl 5 .dp (.int .i64)] (fun ys=>∃(x:Int) (i:Nat),ys=[.int .i64 x,.int .i64 i]∧0≤x∧x≤l∧i≤es.length∧zEV zPV es l=szF zPV (es.drop i) x) (fun ys=>es.length - (nth ys 1).I.toNat) ?_ ?_
 ·simp[-List.getD_eq_getElem?_getD,zBo,zCR]
  exact⟨_,0,⟨rfl,rfl⟩,h,by omega,by simp,by simp[zEV,Int.not_lt.2 h]⟩
 ·rintro ys ⟨x,i,rfl,h2,h3,h4,h5⟩
  refine hW.vc [] _ _ ?_
  simp[-List.getD_eq_getElem?_getD,zBo,zCR]
  refine fun _=>⟨fun h6=>⟨h6,?_⟩,fun h6=>by rw[h5,List.drop_eq_nil_of_le h6];rfl⟩
  intros
  have h7:=(zMG (nth es i) x h2)
  rw[zG h6,szF] at h5
  obtain⟨y,hy⟩:∃y,y=zPV (nth es i) x:=⟨_,rfl⟩
  have hy':=hy
  unfold zPV at hy'
  rw[←hy] at h5 h7
  refine⟨h2,fun h8=>?_,fun h8=>⟨⟨y,i+1,⟨hy'.symm,?_⟩,?_,by omega,by omega,?_⟩,?_⟩⟩
  ·rw[h5,if_pos (by rw[hy'];exact h8)]
  ·rw[zC (by omega)];omega
  ·rw[hy'];exact h8
  ·rw[h5,if_neg (by rw[hy'];exact Int.not_lt.2 h8)]
  ·rw[zC (by omega)];omega
def zZB(ns ss ws ds:List PV)(l:Int):Int:=if zEV zKw ns l < 0 then -1 else if zEV zNz ss (zEV zKw ns l) < 0 then -1 else if zEV zPV ws (zEV zNz ss (zEV zKw ns l)) < 0 then -1 else zHQ ds (zEV zPV ws (zEV zNz ss (zEV zKw ns l)))
def zKx(v:List PV)(l:Int):Int:=zZB (nth v 0).L (nth v 1).L (nth v 2).L (nth v 3).L l
def zXt(e:PV):Prop:=(nth e.A 6).L.length≤1048576∧(nth e.A 10).L.length≤1048576∧(nth e.A 11).L.length≤1048576∧(nth e.A 12).L.length≤1048576
theorem zXD{v:List PV}{l:Int}(h:0≤l)(h2:0≤szN v l):((nth v 6).L.length:Int)≤l∧((nth v 10).L.length:Int)≤l∧((nth v 11).L.length:Int)≤l∧((nth v 12).L.length:Int)≤l:=by
 unfold szN szQ at h2
 have a1:=zGm zCZ (es:=(nth v 6).L) h
 split at h2
 ·omega
 ·rename_i q1
  have a2:=zDx (n:=(nth v 10).L.length) (Int.not_lt.1 q1)
  split at h2
  ·omega
  ·rename_i q2
   have a3:=zDx (n:=(nth v 11).L.length) (Int.not_lt.1 q2)
   split at h2
   ·omega
   ·rename_i q3
    have a4:=zDx (n:=(nth v 12).L.length) (Int.not_lt.1 q3)
    omega
def zFe(v:List PV):Prop:=((nth v 0).L.length≤1048576∧∀e∈(nth v 0).L,zXt e)∧(nth v 1).L.length≤1048576∧((nth v 2).L.length≤1048576∧∀e∈(nth v 2).L,(nth e.A 8).L.length≤1048576)∧(nth v 3).L.length≤1048576
theorem zRs{v:List PV}{l:Int}(h:0≤l):-1≤zKx v l∧zKx v l≤l∧(0≤zKx v l→l≤1048576→zFe v):=by
 have a1:=zHu zKA (es:=(nth v 0).L) h
 unfold zKx zZB
 split
 ·omega
 ·rename_i q1
  have a2:=zHu zMF (es:=(nth v 1).L) (Int.not_lt.1 q1)
  split
  ·omega
  ·rename_i q2
   have a3:=zHu zMG (es:=(nth v 2).L) (Int.not_lt.1 q2)
   split
   ·omega
   ·rename_i q3
    have a4:=zM6 (es:=(nth v 3).L) (Int.not_lt.1 q3)
    refine⟨by omega,by omega,fun q4 q5=>?_⟩
    obtain⟨c1,c2⟩:=a1.2.2 (by omega)
    obtain⟨d1,d2⟩:=a2.2.2 (by omega)
    obtain⟨e1,e2⟩:=a3.2.2 (by omega)
    refine⟨⟨by omega,fun e he=>?_⟩,by omega,⟨by omega,fun e he=>?_⟩,by omega⟩
    ·obtain⟨x,x1,x2,x3⟩:=c2 e he
     have:=zXD x1 x3
     exact⟨by omega,by omega,by omega,by omega⟩
    ·obtain⟨x,x1,x2,x3⟩:=e2 e he
     have:=(zGm zCZ (es:=(nth e.A 8).L) x1).2.2 x3
     omega
def zEE:zJ:=⟨[(.rd,.agg [.list (.agg [.int .i64,.int .i64,.int .i64,.int .i64,.int .i64,.bool,.list (.agg [.int .i64,.str]),.int .i64,.int .i64,.int .i64,.list (.int .i64),.list (.int .i64),.list (.int .i64)]),.list (.agg [.str,.int .i64]),.list (.agg [.int .i64,.int .i64,.int .i64,.int .i64,.int .i64,.int .i64,.int .i64,.bool,.list (.agg [.int .i64,.str])]),.list .str]),(.rd,.int .i64)],[.int .i64],true,fun ps=>0≤(nth ps 1).I,fun ps=>[.int .i64 (zKx (nth ps 0).A (nth ps 1).I)],fun _=>[]⟩
theorem zMc:zh Tryz.prog 23 zEE:=by
 refine zP [0,1,2,4] [.tmp 4] (zA (cs:=[]) zMa (zA (cs:=[]) zLA (zA (cs:=[]) zN8 (zA (cs:=[]) zQD (zD (zB [])))))) mixed Tryz.func23 rfl (by decide) rfl (by decide) rfl ?_
 intro ps hT hpre W hW
 simp only[zEE,TyA,Ty,Tys] at hT hpre
 obtain⟨_,_,rfl,⟨_,rfl,_,_,rfl,⟨ns,rfl,hns,tns⟩,_,_,rfl,⟨ss,rfl,hss,tss⟩,_,_,rfl,⟨ws,rfl,hws,tws⟩,_,_,rfl,⟨ds,rfl,hds,tds⟩,rfl⟩,_,_,rfl,⟨l,rfl,hl⟩,rfl⟩:=hT
 simp only[zE,zF,yp] at hpre
 have a1:=zHu zKA (es:=ns) hpre
 refine hW.vc [] _ _ ?_
 simp[-List.getD_eq_getElem?_getD,zEE,zDo,zC0,zBo,zCQ]
 simp only[zKx,zE,zF,zAA]
 unfold zZB
 refine⟨hpre,fun q=>by rw[if_pos q],fun q=>⟨q,fun q2=>by rw[if_neg (by omega),if_pos q2],fun q2=>⟨q2,fun q3=>by rw[if_neg (by omega),if_neg (by omega),if_pos q3],fun q3=>⟨q3,fun q4=>?_,fun q4=>?_⟩⟩⟩⟩
 ·rw[if_neg (by omega),if_neg (by omega),if_neg (by omega)]
  have:=(zM6 (es:=ds) q3)
  omega
 ·rw[if_neg (by omega),if_neg (by omega),if_neg (by omega)]
def zDk:zJ:=⟨[(.rd,.list (.agg [.int .i64,.int .i64,.int .i64,.int .i64,.int .i64,.bool,.list (.agg [.int .i64,.str]),.int .i64,.int .i64,.int .i64,.list (.int .i64),.list (.int .i64),.list (.int .i64)]))],[.list (.agg [.int .i64,.int .i64,.int .i64,.int .i64,.int .i64,.bool,.list (.agg [.int .i64,.str]),.int .i64,.int .i64,.int .i64,.list (.int .i64),.list (.int .i64),.list (.int .i64)])],true,fun ps=>(nth ps 0).L.length≤1048576∧∀e∈(nth ps 0).L,zXt e,fun ps=>[.list (nth ps 0).L],fun _=>[]⟩
theorem zP9:zh Tryz.prog 71 zDk:=by
 refine zP [0,2,3,4] [.tmp 2] (zA (cs:=[]) zSF (zD (zB []))) mixed Tryz.func71 rfl (by decide) rfl (by decide) rfl ?_
 intro ps hT hpre W hW
 simp only[zDk,TyA,Ty,Tys] at hT hpre
 obtain⟨_,_,rfl,⟨es,rfl,hes,tes⟩,rfl⟩:=hT
 simp only[zE,zAA] at hpre
 refine hW.vc [] _ _ ?_
 simp[-List.getD_eq_getElem?_getD,zDk,zj]
 refine fun h1=>⟨by omega,hW.loopS _ _ _ [.sl 3 .dp (.list (.agg [.int .i64,.int .i64,.int .i64,.int .i64,.int .i64,.bool,.list (.agg [.int .i64,.str]),.int .i64,.int .i64,.int .i64,.list (.int .i64),.list (.int .i64),.list (.int .i64)])),.sl 4 .dp (.int .i64)] (fun ys=>∃(out:List PV) (i:Nat),ys=[.list out,.int .i64 i]∧i≤es.length∧out.length=es.length∧out.take i=es.take i) (fun ys=>es.length - (nth ys 1).I.toNat) ?_ ?_⟩
 ·simp[-List.getD_eq_getElem?_getD,zDk,zj]
  exact⟨_,0,⟨rfl,rfl⟩,by simp,by simp,by simp⟩
 ·rintro ys ⟨out,i,rfl,h2,h3,h4⟩
  refine hW.vc [] _ _ ?_
  simp[-List.getD_eq_getElem?_getD,zDk,zj]
  refine fun _=>⟨fun h5=>⟨h5,?_⟩,fun h5=>?_⟩
  ·intros
   have hq:=hpre.2 _ (zb h5)
   obtain⟨_,he,_,_,rfl,⟨_,rfl,_⟩,_,_,rfl,⟨_,rfl,_⟩,_,_,rfl,⟨_,rfl,_⟩,_,_,rfl,⟨_,rfl,_⟩,_,_,rfl,⟨_,rfl,_⟩,_,_,rfl,⟨_,rfl⟩,_,_,rfl,⟨_,rfl,_,_⟩,_,_,rfl,⟨_,rfl,_⟩,_,_,rfl,⟨_,rfl,_⟩,_,_,rfl,⟨_,rfl,_⟩,_,_,rfl,⟨_,rfl,_,_⟩,_,_,rfl,⟨_,rfl,_,_⟩,_,_,rfl,⟨_,rfl,_,_⟩,rfl⟩:=tes _ (zb h5)
   rw[zC (n:=(i:Int)+1) (by omega)]
   refine⟨hq,by omega,?_⟩
   refine⟨⟨_,i+1,⟨rfl,by omega⟩,by omega,by simp[h3],zD1 h4 h3 h5 (by rw[he];rfl)⟩,by omega⟩
  ·rw[List.take_of_length_le (by omega),List.take_of_length_le (by omega)] at h4
   exact h4
def zDj:zJ:=⟨[(.rd,.agg [.str,.int .i64])],[.agg [.str,.int .i64]],true,fun _=>True,fun ps=>[nth ps 0],fun _=>[]⟩
theorem zP8:zh Tryz.prog 115 zDj:=by
 refine zP [0,1,2,3] [.cell 2 73] (zD (zB [])) mixed Tryz.func115 rfl (by decide) rfl (by decide) rfl ?_
 intro ps hT hpre W hW
 simp only[zDj,TyA,Ty,Tys] at hT hpre
 obtain⟨_,_,rfl,⟨_,rfl,_,_,rfl,⟨c,rfl,hc⟩,_,_,rfl,⟨y,rfl,hy⟩,rfl⟩,rfl⟩:=hT
 refine hW.vc [] _ _ ?_
 simp[-List.getD_eq_getElem?_getD,zDj]
def zCz:zJ:=⟨[(.rd,.list (.agg [.str,.int .i64]))],[.list (.agg [.str,.int .i64])],true,fun ps=>(nth ps 0).L.length≤1048576,fun ps=>[.list (nth ps 0).L],fun _=>[]⟩
theorem zN7:zh Tryz.prog 72 zCz:=by
 refine zP [0,2,3,4] [.tmp 2] (zA (cs:=[]) zP8 (zD (zB []))) mixed Tryz.func72 rfl (by decide) rfl (by decide) rfl ?_
 intro ps hT hpre W hW
 simp only[zCz,TyA,Ty,Tys] at hT hpre
 obtain⟨_,_,rfl,⟨es,rfl,hes,tes⟩,rfl⟩:=hT
 simp only[zE,zAA] at hpre
 refine hW.vc [] _ _ ?_
 simp[-List.getD_eq_getElem?_getD,zCz,zDj]
 refine fun h1=>⟨by omega,hW.loopS _ _ _ [.sl 3 .dp (.list (.agg [.str,.int .i64])),.sl 4 .dp (.int .i64)] (fun ys=>∃(out:List PV) (i:Nat),ys=[.list out,.int .i64 i]∧i≤es.length∧out.length=es.length∧out.take i=es.take i) (fun ys=>es.length - (nth ys 1).I.toNat) ?_ ?_⟩
 ·simp[-List.getD_eq_getElem?_getD,zCz,zDj]
  exact⟨_,0,⟨rfl,rfl⟩,by simp,by simp,by simp⟩
 ·rintro ys ⟨out,i,rfl,h2,h3,h4⟩
  refine hW.vc [] _ _ ?_
  simp[-List.getD_eq_getElem?_getD,zCz,zDj]
  refine fun _=>⟨fun h5=>⟨h5,?_⟩,fun h5=>?_⟩
  ·intros
   skip
   obtain⟨_,he,_,_,rfl,⟨_,rfl,_⟩,_,_,rfl,⟨_,rfl,_⟩,rfl⟩:=tes _ (zb h5)
   rw[zC (n:=(i:Int)+1) (by omega)]
   refine⟨by omega,?_⟩
   refine⟨⟨_,i+1,⟨rfl,by omega⟩,by omega,by simp[h3],zD1 h4 h3 h5 (by rw[he];rfl)⟩,by omega⟩
  ·rw[List.take_of_length_le (by omega),List.take_of_length_le (by omega)] at h4
   exact h4
def zBn:zJ:=⟨[(.rd,.list (.agg [.int .i64,.int .i64,.int .i64,.int .i64,.int .i64,.int .i64,.int .i64,.bool,.list (.agg [.int .i64,.str])]))],[.list (.agg [.int .i64,.int .i64,.int .i64,.int .i64,.int .i64,.int .i64,.int .i64,.bool,.list (.agg [.int .i64,.str])])],true,fun ps=>(nth ps 0).L.length≤1048576∧∀e∈(nth ps 0).L,(nth e.A 8).L.length≤1048576,fun ps=>[.list (nth ps 0).L],fun _=>[]⟩
theorem zK9:zh Tryz.prog 73 zBn:=by
 refine zP [0,2,3,4] [.tmp 2] (zA (cs:=[]) zMY (zD (zB []))) mixed Tryz.func73 rfl (by decide) rfl (by decide) rfl ?_
 intro ps hT hpre W hW
 simp only[zBn,TyA,Ty,Tys] at hT hpre
 obtain⟨_,_,rfl,⟨es,rfl,hes,tes⟩,rfl⟩:=hT
 simp only[zE,zAA] at hpre
 refine hW.vc [] _ _ ?_
 simp[-List.getD_eq_getElem?_getD,zBn,zCO]
 refine fun h1=>⟨by omega,hW.loopS _ _ _ [.sl 3 .dp (.list (.agg [.int .i64,.int .i64,.int .i64,.int .i64,.int .i64,.int .i64,.int .i64,.bool,.list (.agg [.int .i64,.str])])),.sl 4 .dp (.int .i64)] (fun ys=>∃(out:List PV) (i:Nat),ys=[.list out,.int .i64 i]∧i≤es.length∧out.length=es.length∧out.take i=es.take i) (fun ys=>es.length - (nth ys 1).I.toNat) ?_ ?_⟩
 ·simp[-List.getD_eq_getElem?_getD,zBn,zCO]
  exact⟨_,0,⟨rfl,rfl⟩,by simp,by simp,by simp⟩
 ·rintro ys ⟨out,i,rfl,h2,h3,h4⟩
  refine hW.vc [] _ _ ?_
  simp[-List.getD_eq_getElem?_getD,zBn,zCO]
  refine fun _=>⟨fun h5=>⟨h5,?_⟩,fun h5=>?_⟩
  ·intros
   have hq:=hpre.2 _ (zb h5)
   obtain⟨_,he,_,_,rfl,⟨_,rfl,_⟩,_,_,rfl,⟨_,rfl,_⟩,_,_,rfl,⟨_,rfl,_⟩,_,_,rfl,⟨_,rfl,_⟩,_,_,rfl,⟨_,rfl,_⟩,_,_,rfl,⟨_,rfl,_⟩,_,_,rfl,⟨_,rfl,_⟩,_,_,rfl,⟨_,rfl⟩,_,_,rfl,⟨_,rfl,_,_⟩,rfl⟩:=tes _ (zb h5)
   rw[zC (n:=(i:Int)+1) (by omega)]
   refine⟨hq,by omega,?_⟩
   refine⟨⟨_,i+1,⟨rfl,by omega⟩,by omega,by simp[h3],zD1 h4 h3 h5 (by rw[he];rfl)⟩,by omega⟩
  ·rw[List.take_of_length_le (by omega),List.take_of_length_le (by omega)] at h4
   exact h4
def zED:zJ:=⟨[(.rd,.agg [.list (.agg [.int .i64,.int .i64,.int .i64,.int .i64,.int .i64,.bool,.list (.agg [.int .i64,.str]),.int .i64,.int .i64,.int .i64,.list (.int .i64),.list (.int .i64),.list (.int .i64)]),.list (.agg [.str,.int .i64]),.list (.agg [.int .i64,.int .i64,.int .i64,.int .i64,.int .i64,.int .i64,.int .i64,.bool,.list (.agg [.int .i64,.str])]),.list .str])],[.agg [.list (.agg [.int .i64,.int .i64,.int .i64,.int .i64,.int .i64,.bool,.list (.agg [.int .i64,.str]),.int .i64,.int .i64,.int .i64,.list (.int .i64),.list (.int .i64),.list (.int .i64)]),.list (.agg [.str,.int .i64]),.list (.agg [.int .i64,.int .i64,.int .i64,.int .i64,.int .i64,.int .i64,.int .i64,.bool,.list (.agg [.int .i64,.str])]),.list .str]],true,fun ps=>zFe (nth ps 0).A,fun ps=>[nth ps 0],fun _=>[]⟩
theorem zMZ:zh Tryz.prog 26 zED:=by
 refine zP [0,1,2,3] [.cell 2 29] (zA (cs:=[]) zMX (zA (cs:=[]) zK9 (zA (cs:=[]) zN7 (zA (cs:=[]) zP9 (zD (zB [])))))) mixed Tryz.func26 rfl (by decide) rfl (by decide) rfl ?_
 intro ps hT hpre W hW
 simp only[zED,TyA,Ty,Tys] at hT hpre
 obtain⟨_,_,rfl,⟨_,rfl,_,_,rfl,⟨ns,rfl,hns,tns⟩,_,_,rfl,⟨ss,rfl,hss,tss⟩,_,_,rfl,⟨ws,rfl,hws,tws⟩,_,_,rfl,⟨ds,rfl,hds,tds⟩,rfl⟩,rfl⟩:=hT
 simp only[zE,zF,zBE,zAA,zFe] at hpre
 refine hW.vc [] _ _ ?_
 simp[-List.getD_eq_getElem?_getD,zED,zDk,zCz,zBn,zCN]
 exact hpre
end
section
variable [zS]
def yv(d:PV→Int)(k:Int):List PV→Int
 | []=>k
 | e :: es=>yv d (k+d e) es
def yT(d:PV→Int)(m:Int→PV→PV)(k:Int):List PV→List PV
 | []=>[]
 | e :: es=>m k e :: yT d m (k+d e) es
def zAf(d:PV→Int)(f:Int→PV→Bool)(k:Int):List PV→Int
 | []=>k
 | e :: es=>if f k e then zAf d f (k+d e) es else -1
theorem zA8{d:PV→Int}(x:PV):∀(es:List PV) (k:Int),yv d k (es++[x])=yv d k es+d x
 | [],k=>rfl
 | e :: es,k=>by simp only[List.cons_append,yv];exact zA8 x es _
theorem zDH{d:PV→Int}{m:Int→PV→PV}(x:PV):∀(es:List PV) (k:Int),yT d m k (es++[x])=yT d m k es++[m (yv d k es) x]
 | [],k=>rfl
 | e :: es,k=>by simp only[List.cons_append,yT,yv];rw[zDH x es]
theorem yz{d:PV→Int}{m:Int→PV→PV}:∀(es:List PV) (k:Int),(yT d m k es).length=es.length
 | [],k=>rfl
 | e :: es,k=>by simp only[yT,List.length_cons,yz es]
theorem zAd{d:PV→Int}(hd:∀e,0≤d e):∀(es:List PV) (k:Int),k≤yv d k es
 | [],k=>Int.le_refl _
 | e :: es,k=>by have:=zAd hd es (k+d e);have:=hd e;simp only[yv];omega
theorem zC3{d:PV→Int}(hd:∀e,0≤d e)(es:List PV)(k:Int){i:Nat}(h:i < es.length):yv d k (es.take i)+d (nth es i)≤yv d k es:=by
 induction es generalizing k i with
 | nil=>simp at h
 | cons e es ih=>
  cases i with
  | zero=>rw[zE];exact zAd hd es (k+d e)
  | succ i=>rw[zF];exact ih (k+d e) (by simpa using h)
theorem zDi{d:PV→Int}{m:Int→PV→PV}{f:Int→PV→Bool}(h1:∀k e,d (m k e)=d e)(h2:∀k e,f k (m k e)=true):∀(es:List PV) (k:Int),zAf d f k (yT d m k es)=yv d k es
 | [],k=>rfl
 | e :: es,k=>by rw[yT,zAf,if_pos (h2 k e),h1,zDi h1 h2 es,yv]
theorem zDe{d:PV→Int}{m:Int→PV→PV}(h1:∀k e,d (m k e)=d e):∀(es:List PV) (k k':Int),yv d k' (yT d m k es)=yv d k' es
 | [],k,k'=>rfl
 | e :: es,k,k'=>by simp only[yT,yv,h1];exact zDe h1 es _ _
def ndN(e:PV):Int:=9+2*(nth e.A 6).L.length+(nth e.A 10).L.length+(nth e.A 11).L.length+(nth e.A 12).L.length
theorem zC7(e:PV):0≤ndN e:=by unfold ndN;omega
def zVh(k:Int)(l v x m:Nat):PV:=.agg [.int .i64 k,.int .i64 (k+1),.int .i64 (k+2),.int .i64 (k+3),.int .i64 (k+4),.bool (zOf (k+5)),.list (zC8 (k+6) l),.int .i64 (k+6+2*l),.int .i64 (k+6+2*l+1),.int .i64 (k+6+2*l+2),
 .list (zCs (k+6+2*l+3) v),.list (zCs (k+6+2*l+3+v) x),.list (zCs (k+6+2*l+3+v+x) m)]
def mkN(k:Int)(e:PV):PV:=zVh k (nth e.A 6).L.length (nth e.A 10).L.length (nth e.A 11).L.length (nth e.A 12).L.length
theorem zOe(k:Int)(e:PV):ndN (mkN k e)=ndN e:=by simp[ndN,mkN,zVh,zE,zF,zBE,zAA,zBM,zCG]
def zAY:zJ:=⟨[(.mt,.list (.agg [.int .i64,.int .i64,.int .i64,.int .i64,.int .i64,.bool,.list (.agg [.int .i64,.str]),.int .i64,.int .i64,.int .i64,.list (.int .i64),.list (.int .i64),.list (.int .i64)])),(.rd,.int .i64)],[.int .i64],true,fun ps=>0≤(nth ps 1).I∧yv ndN (nth ps 1).I (nth ps 0).L≤1073741823,fun ps=>[.int .i64 (yv ndN (nth ps 1).I (nth ps 0).L)],fun ps=>[.list (yT ndN mkN (nth ps 1).I (nth ps 0).L)]⟩
set_option maxHeartbeats 4000000 in
theorem zII:zh Tryz.prog 58 zAY:=by
 refine zP [0,1,4,5] [.tmp 4] (zA (cs:=[]) zHi (zA (cs:=[]) zDu (zD (zB [])))) mixed Tryz.func58 rfl (by decide) rfl (by decide) rfl ?_
 intro ps hT hpre W hW
 simp only[zAY,TyA,Ty,Tys] at hT hpre
 obtain⟨_,_,rfl,⟨es,rfl,hes,tes⟩,_,_,rfl,⟨k,rfl,hk⟩,rfl⟩:=hT
 simp only[zE,zF,yp,zAA] at hpre
 refine hW.vc [] _ _ ?_
 simp[-List.getD_eq_getElem?_getD,zAY,zs,zAB]
 refine hW.loopS _ _ _ [.ar 0 (.agg [.int .i64,.int .i64,.int .i64,.int .i64,.int .i64,.bool,.list (.agg [.int .i64,.str]),.int .i64,.int .i64,.int .i64,.list (.int .i64),.list (.int .i64),.list (.int .i64)]),.sl 1 .dp (.int .i64),.sl 5 .dp (.int .i64)] (fun ys=>∃i:Nat,ys=[.list (yT ndN mkN k (es.take i)++es.drop i),.int .i64 (yv ndN k (es.take i)),.int .i64 i]∧i≤es.length) (fun ys=>es.length - (nth ys 2).I.toNat) ?_ ?_
 ·simp[-List.getD_eq_getElem?_getD,zAY,zs,zAB]
  exact⟨0,⟨by simp[yT],by simp[yv],rfl⟩,by omega⟩
 ·rintro ys ⟨i,rfl,h2⟩
  by_cases h3:i < es.length
  ·have h4:i < (yT ndN mkN k (es.take i)++es.drop i).length:=by rw[List.length_append,yz,List.length_take,List.length_drop];omega
   have h5:(yT ndN mkN k (es.take i)++es.drop i).length=es.length:=by rw[List.length_append,yz,List.length_take,List.length_drop];omega
   obtain⟨L,hL⟩:∃L,L=yT ndN mkN k (es.take i)++es.drop i:=⟨_,rfl⟩
   obtain⟨K,hK⟩:∃K,K=yv ndN k (es.take i):=⟨_,rfl⟩
   rw[←hL] at h4 h5
   rw[←hL,←hK]
   have h6:∀x,nth (L.set i x) i=x:=fun x=>zEc h4
   refine hW.vc [] _ _ ?_
   simp[-List.getD_eq_getElem?_getD,zAY,zs,zAB,h6]
   have g1:=zC3 zC7 es k h3
   have g2:=zAd zC7 (es.take i) k
   rw[←hK] at g1 g2
   have g3:nth L i=nth es i:=by rw[hL,zG h3];simp[nth,List.getElem?_append_right,yz,List.length_take,Nat.min_eq_left h2]
   have g4:ndN (nth es i)=9+2*(nth (nth es i).A 6).L.length+(nth (nth es i).A 10).L.length+(nth (nth es i).A 11).L.length+(nth (nth es i).A 12).L.length:=rfl
   have g5:mkN K (nth es i)=zVh K (nth (nth es i).A 6).L.length (nth (nth es i).A 10).L.length (nth (nth es i).A 11).L.length (nth (nth es i).A 12).L.length:=rfl
   rw[g3]
   obtain⟨l,hl⟩:∃l,l=(nth (nth es i).A 6).L.length:=⟨_,rfl⟩
   obtain⟨v,hv⟩:∃v,v=(nth (nth es i).A 10).L.length:=⟨_,rfl⟩
   obtain⟨x,hx⟩:∃x,x=(nth (nth es i).A 11).L.length:=⟨_,rfl⟩
   obtain⟨m,hm⟩:∃m,m=(nth (nth es i).A 12).L.length:=⟨_,rfl⟩
   rw[←hl,←hv,←hx,←hm] at g4 g5 ⊢
   have e1:IntKind.i64.wrap (K+1)=K+1:=zC (by omega)
   have e2:IntKind.i64.wrap (K+1+1)=K+2:=by rw[zC (by omega)];omega
   have e3:IntKind.i64.wrap (K+2+1)=K+3:=by rw[zC (by omega)];omega
   have e4:IntKind.i64.wrap (K+3+1)=K+4:=by rw[zC (by omega)];omega
   have e5:IntKind.i64.wrap (K+4+1)=K+5:=by rw[zC (by omega)];omega
   have e6:IntKind.i64.wrap (K+5+1)=K+6:=by rw[zC (by omega)];omega
   have e7:IntKind.i64.wrap (K+6+2*(l:Int)+1)=K+6+2*l+1:=zC (by omega)
   have e8:IntKind.i64.wrap (K+6+2*(l:Int)+1+1)=K+6+2*l+2:=by rw[zC (by omega)];omega
   have e9:IntKind.i64.wrap (K+6+2*(l:Int)+2+1)=K+6+2*l+3:=by rw[zC (by omega)];omega
   have e10:IntKind.i64.wrap ((i:Int)+1)=(i:Int)+1:=zC (by rw[LIM] at hes;omega)
   simp only[e1,e2,e3,e4,e5,e6,e7,e8,e9,e10]
   refine fun _=>⟨fun _=>⟨h4,fun _=>⟨⟨by omega,by omega⟩,h4,fun _=>⟨⟨by omega,by omega⟩,h4,fun _=>⟨⟨by omega,by omega⟩,h4,fun _=>⟨⟨by omega,by omega⟩,⟨i+1,⟨?_,?_,by omega⟩,by omega⟩,by omega⟩⟩⟩⟩⟩,fun h=>by omega⟩
   ·rw[zd h3,zDH,hL]
    exact zBY (by rw[yz,List.length_take];omega) h3 (by rw[←hK,g5];rfl)
   ·rw[zd h3,zA8,←hK,g4];omega
  ·have:i=es.length:=by omega
   subst this
   have h4:yT ndN mkN k (es.take es.length)++es.drop es.length=yT ndN mkN k es:=by simp
   have h5:(yT ndN mkN k es).length=es.length:=yz es k
   rw[h4,List.take_length]
   obtain⟨L,hL⟩:∃L,L=yT ndN mkN k es:=⟨_,rfl⟩
   rw[←hL] at h5 ⊢
   have h6:∀x,nth (L.set es.length x) es.length=PV.d:=fun x=>by simp[nth,h5]
   refine hW.vc [] _ _ ?_
   simp[-List.getD_eq_getElem?_getD,zAY,zs,zAB,h6,h5]
   exact fun _=>hL
def yK(k:Int)(e:PV):Bool:=(nth e.A 0).I == k&&(nth e.A 1).I == k+1&&(nth e.A 2).I == k+2&&(nth e.A 3).I == k+3&&(nth e.A 4).I == k+4&&(nth e.A 5).B == zOf (k+5)&&zn zBN 2 (k+6) (nth e.A 6).L == k+6+2*(nth e.A 6).L.length &&
 (nth e.A 7).I == k+6+2*(nth e.A 6).L.length&&(nth e.A 8).I == k+6+2*(nth e.A 6).L.length+1&&(nth e.A 9).I == k+6+2*(nth e.A 6).L.length+2&&zn zAj 1 (k+6+2*(nth e.A 6).L.length+3) (nth e.A 10).L == k+6+2*(nth e.A 6).L.length+3+(nth e.A 10).L.length &&
 zn zAj 1 (k+6+2*(nth e.A 6).L.length+3+(nth e.A 10).L.length) (nth e.A 11).L == k+6+2*(nth e.A 6).L.length+3+(nth e.A 10).L.length+(nth e.A 11).L.length &&
 zn zAj 1 (k+6+2*(nth e.A 6).L.length+3+(nth e.A 10).L.length+(nth e.A 11).L.length) (nth e.A 12).L == k+6+2*(nth e.A 6).L.length+3+(nth e.A 10).L.length+(nth e.A 11).L.length+(nth e.A 12).L.length
theorem zLK(k:Int)(e:PV):yK k (mkN k e)=true:=by
 simp[yK,mkN,zVh,zE,zF,zBE,yp,zAA,zNq,zFr,zHk,zBM,zCG]
theorem zIR(es:List PV)(k:Int):zAf ndN yK k (yT ndN mkN k es)=yv ndN k es:=zDi zOe zLK es k
def zAr:zJ:=⟨[(.rd,.list (.agg [.int .i64,.int .i64,.int .i64,.int .i64,.int .i64,.bool,.list (.agg [.int .i64,.str]),.int .i64,.int .i64,.int .i64,.list (.int .i64),.list (.int .i64),.list (.int .i64)])),(.rd,.int .i64)],[.int .i64],true,fun ps=>0≤(nth ps 1).I∧yv ndN (nth ps 1).I (nth ps 0).L≤1073741823,fun ps=>[.int .i64 (zAf ndN yK (nth ps 1).I (nth ps 0).L)],fun _=>[]⟩
set_option maxHeartbeats 4000000 in
theorem zIL:zh Tryz.prog 62 zAr:=by
 refine zP [0,1,4,5] [.tmp 4] (zA (cs:=[]) zHj (zA (cs:=[]) zDv (zD (zB [])))) mixed Tryz.func62 rfl (by decide) rfl (by decide) rfl ?_
 intro ps hT hpre W hW
 simp only[zAr,TyA,Ty,Tys] at hT hpre
 obtain⟨_,_,rfl,⟨es,rfl,hes,tes⟩,_,_,rfl,⟨k,rfl,hk⟩,rfl⟩:=hT
 simp only[zE,zF,yp,zAA] at hpre
 refine hW.vc [] _ _ ?_
 simp[-List.getD_eq_getElem?_getD,zAr,yB,zAV]
 refine hW.loopS _ _ _ [.sl 1 .dp (.int .i64),.sl 5 .dp (.int .i64)] (fun ys=>∃i:Nat,ys=[.int .i64 (yv ndN k (es.take i)),.int .i64 i]∧i≤es.length∧zAf ndN yK k es=zAf ndN yK (yv ndN k (es.take i)) (es.drop i)) (fun ys=>es.length - (nth ys 1).I.toNat) ?_ ?_
 ·simp[-List.getD_eq_getElem?_getD,zAr,yB,zAV]
  exact⟨0,⟨by simp[yv],rfl⟩,by omega,by simp[yv]⟩
 ·rintro ys ⟨i,rfl,h2,h3⟩
  refine hW.vc [] _ _ ?_
  simp[-List.getD_eq_getElem?_getD,zAr,yB,zAV]
  by_cases h4:i < es.length
  ·have g1:=zC3 zC7 es k h4
   have g2:=zAd zC7 (es.take i) k
   obtain⟨K,hK⟩:∃K,K=yv ndN k (es.take i):=⟨_,rfl⟩
   rw[←hK] at g1 g2 h3 ⊢
   have g4:ndN (nth es i)=9+2*(nth (nth es i).A 6).L.length+(nth (nth es i).A 10).L.length+(nth (nth es i).A 11).L.length+(nth (nth es i).A 12).L.length:=rfl
   rw[zG h4,zAf] at h3
   have no:yK K (nth es i)=false→zAf ndN yK k es=-1:=fun q=>by rw[h3,if_neg (by rw[q];simp)]
   obtain⟨l,hl⟩:∃l,l=(nth (nth es i).A 6).L.length:=⟨_,rfl⟩
   have a6:=zDh (f:=zBN) (d:=2) (by omega) (es:=(nth (nth es i).A 6).L) (k:=K+6) (by omega)
   have a10:=zDh (f:=zAj) (d:=1) (by omega) (es:=(nth (nth es i).A 10).L) (k:=K+6+2*l+3) (by omega)
   have a11:=zDh (f:=zAj) (d:=1) (by omega) (es:=(nth (nth es i).A 11).L) (k:=K+6+2*l+3+(nth (nth es i).A 10).L.length) (by omega)
   have a12:=zDh (f:=zAj) (d:=1) (by omega) (es:=(nth (nth es i).A 12).L) (k:=K+6+2*l+3+(nth (nth es i).A 10).L.length+(nth (nth es i).A 11).L.length) (by omega)
   have e1:IntKind.i64.wrap (K+1)=K+1:=zC (by omega)
   have e2:IntKind.i64.wrap (K+1+1)=K+2:=by rw[zC (by omega)];omega
   have e3:IntKind.i64.wrap (K+2+1)=K+3:=by rw[zC (by omega)];omega
   have e4:IntKind.i64.wrap (K+3+1)=K+4:=by rw[zC (by omega)];omega
   have e5:IntKind.i64.wrap (K+4+1)=K+5:=by rw[zC (by omega)];omega
   have e6:IntKind.i64.wrap (K+5+1)=K+6:=by rw[zC (by omega)];omega
   have e7:IntKind.i64.wrap (K+6+2*(l:Int)+1)=K+6+2*l+1:=zC (by omega)
   have e8:IntKind.i64.wrap (K+6+2*(l:Int)+1+1)=K+6+2*l+2:=by rw[zC (by omega)];omega
   have e9:IntKind.i64.wrap (K+6+2*(l:Int)+2+1)=K+6+2*l+3:=by rw[zC (by omega)];omega
   have e10:IntKind.i64.wrap ((i:Int)+1)=(i:Int)+1:=zC (by rw[LIM] at hes;omega)
   have c6:0≤K+6∧K+6+2*((nth (nth es i).A 6).L.length:Int)≤1073741823:=⟨by omega,by omega⟩
   have P6:0≤K+6+2*((nth (nth es i).A 6).L.length:Int):=by omega
   have c10:0≤K+6+2*l+3∧K+6+2*l+3+((nth (nth es i).A 10).L.length:Int)≤1073741823:=⟨by omega,by omega⟩
   have P10:0≤K+6+2*l+3+((nth (nth es i).A 10).L.length:Int):=by omega
   have c11:0≤K+6+2*l+3+(nth (nth es i).A 10).L.length∧K+6+2*l+3+(nth (nth es i).A 10).L.length+((nth (nth es i).A 11).L.length:Int)≤1073741823:=⟨by omega,by omega⟩
   have P11:0≤K+6+2*l+3+(nth (nth es i).A 10).L.length+((nth (nth es i).A 11).L.length:Int):=by omega
   have c12:0≤K+6+2*l+3+(nth (nth es i).A 10).L.length+(nth (nth es i).A 11).L.length∧K+6+2*l+3+(nth (nth es i).A 10).L.length+(nth (nth es i).A 11).L.length+((nth (nth es i).A 12).L.length:Int)≤1073741823:=⟨by omega,by omega⟩
   have P12:0≤K+6+2*l+3+(nth (nth es i).A 10).L.length+(nth (nth es i).A 11).L.length+((nth (nth es i).A 12).L.length:Int):=by omega
   have cF:K+6+2*l+3+(nth (nth es i).A 10).L.length+(nth (nth es i).A 11).L.length+((nth (nth es i).A 12).L.length:Int)=K+ndN (nth es i):=by omega
   have cI:es.length - ((i:Int)+1).toNat < es.length - i:=by omega
   have hl':((nth (nth es i).A 6).L.length:Int)=l:=by rw[hl]
   simp only[e1,e2,e3,e4,e5,e6,e10]
   refine fun _=>⟨fun _=>?_,fun h=>absurd h (Nat.not_le.2 h4)⟩
   refine⟨h4,fun _=>⟨fun q=>(no (by simp[yK,q])).symm,fun q0=>?_⟩⟩
   refine⟨h4,fun _=>⟨fun q=>(no (by simp[yK,q])).symm,fun q1=>?_⟩⟩
   refine⟨h4,fun _=>⟨fun q=>(no (by simp[yK,q])).symm,fun q2=>?_⟩⟩
   refine⟨h4,fun _=>⟨fun q=>(no (by simp[yK,q])).symm,fun q3=>?_⟩⟩
   refine⟨h4,fun _=>⟨fun q=>(no (by simp[yK,q])).symm,fun q4=>?_⟩⟩
   refine⟨h4,fun _=>⟨fun q=>(no (by simp[yK,zOf,q])).symm,fun q5=>?_⟩⟩
   refine⟨h4,fun _=>⟨c6,fun q=>(no ?_).symm,fun q6=>?_⟩⟩
   ·have:¬zn zBN 2 (K+6) (nth (nth es i).A 6).L=K+6+2*(nth (nth es i).A 6).L.length:=fun e=>absurd q (by rw[e];exact Int.not_lt.2 P6)
    simp[yK,this]
   have b6:zn zBN 2 (K+6) (nth (nth es i).A 6).L=K+6+2*l:=by
    have:=a6.resolve_left (fun e=>absurd q6 (by rw[e];decide))
    rwa[hl'] at this
   rw[b6]
   simp only[e7,e8,e9]
   refine⟨h4,fun _=>⟨fun q=>(no (by simp[yK,←hl,q])).symm,fun q7=>?_⟩⟩
   refine⟨h4,fun _=>⟨fun q=>(no (by simp[yK,←hl,q])).symm,fun q8=>?_⟩⟩
   refine⟨h4,fun _=>⟨fun q=>(no (by simp[yK,←hl,q])).symm,fun q9=>?_⟩⟩
   refine⟨h4,fun _=>⟨c10,fun q=>(no ?_).symm,fun q10=>?_⟩⟩
   ·have:¬zn zAj 1 (K+6+2*l+3) (nth (nth es i).A 10).L=K+6+2*l+3+(nth (nth es i).A 10).L.length:=fun e=>absurd q (by rw[e];exact Int.not_lt.2 P10)
    simp[yK,←hl,this]
   have b10:zn zAj 1 (K+6+2*l+3) (nth (nth es i).A 10).L=K+6+2*l+3+(nth (nth es i).A 10).L.length:=by
    have:=a10.resolve_left (fun e=>absurd q10 (by rw[e];decide))
    rwa[Int.one_mul] at this
   rw[b10]
   refine⟨h4,fun _=>⟨c11,fun q=>(no ?_).symm,fun q11=>?_⟩⟩
   ·have:¬zn zAj 1 (K+6+2*l+3+(nth (nth es i).A 10).L.length) (nth (nth es i).A 11).L=K+6+2*l+3+(nth (nth es i).A 10).L.length+(nth (nth es i).A 11).L.length:=fun e=>absurd q (by rw[e];exact Int.not_lt.2 P11)
    simp[yK,←hl,this]
   have b11:zn zAj 1 (K+6+2*l+3+(nth (nth es i).A 10).L.length) (nth (nth es i).A 11).L=K+6+2*l+3+(nth (nth es i).A 10).L.length+(nth (nth es i).A 11).L.length:=by
    have:=a11.resolve_left (fun e=>absurd q11 (by rw[e];decide))
    rwa[Int.one_mul] at this
   rw[b11]
   refine⟨h4,fun _=>⟨c12,fun q=>(no ?_).symm,fun q12=>?_⟩⟩
   ·have:¬zn zAj 1 (K+6+2*l+3+(nth (nth es i).A 10).L.length+(nth (nth es i).A 11).L.length) (nth (nth es i).A 12).L=K+6+2*l+3+(nth (nth es i).A 10).L.length+(nth (nth es i).A 11).L.length+(nth (nth es i).A 12).L.length:=fun e=>absurd q (by rw[e];exact Int.not_lt.2 P12)
    simp[yK,←hl,this]
   have b12:zn zAj 1 (K+6+2*l+3+(nth (nth es i).A 10).L.length+(nth (nth es i).A 11).L.length) (nth (nth es i).A 12).L=K+6+2*l+3+(nth (nth es i).A 10).L.length+(nth (nth es i).A 11).L.length+(nth (nth es i).A 12).L.length:=by
    have:=a12.resolve_left (fun e=>absurd q12 (by rw[e];decide))
    rwa[Int.one_mul] at this
   rw[b12]
   have a3:yK K (nth es i)=true:=by simp[yK,zOf,←hl,q0,q1,q2,q3,q4,q5,b6,q7,q8,q9,b10,b11,b12]
   rw[if_pos a3] at h3
   refine⟨⟨i+1,⟨?_,rfl⟩,h4,?_⟩,cI⟩
   ·rw[zd h4,zA8,←hK];exact cF
   ·rw[zd h4,zA8,←hK,h3]
  ·have:i=es.length:=by omega
   subst this
   refine fun _=>⟨fun h=>absurd h (Nat.lt_irrefl _),fun _=>?_⟩
   rw[h3,List.drop_length];rfl
end
section
variable [zS]
def stN(e:PV):Int:=2
theorem zC4(e:PV):0≤stN e:=by unfold stN;decide
def zGj(k:Int)(e:PV):PV:=.agg [.str (zES k),.int .i64 (k+1)]
def zAF:zJ:=⟨[(.mt,.list (.agg [.str,.int .i64])),(.rd,.int .i64)],[.int .i64],true,fun ps=>0≤(nth ps 1).I∧yv stN (nth ps 1).I (nth ps 0).L≤1073741823,fun ps=>[.int .i64 (yv stN (nth ps 1).I (nth ps 0).L)],fun ps=>[.list (yT stN zGj (nth ps 1).I (nth ps 0).L)]⟩
theorem zHI:zh Tryz.prog 59 zAF:=by
 refine zP [0,1,4,5] [.tmp 4] (zA (cs:=[]) zA4 (zD (zB []))) mixed Tryz.func59 rfl (by decide) rfl (by decide) rfl ?_
 intro ps hT hpre W hW
 simp only[zAF,TyA,Ty,Tys] at hT hpre
 obtain⟨_,_,rfl,⟨es,rfl,hes,tes⟩,_,_,rfl,⟨k,rfl,hk⟩,rfl⟩:=hT
 simp only[zE,zF,yp,zAA] at hpre
 refine hW.vc [] _ _ ?_
 simp[-List.getD_eq_getElem?_getD,zAF,zZ]
 refine hW.loopS _ _ _ [.ar 0 (.agg [.str,.int .i64]),.sl 1 .dp (.int .i64),.sl 5 .dp (.int .i64)] (fun ys=>∃i:Nat,ys=[.list (yT stN zGj k (es.take i)++es.drop i),.int .i64 (yv stN k (es.take i)),.int .i64 i]∧i≤es.length) (fun ys=>es.length - (nth ys 2).I.toNat) ?_ ?_
 ·simp[-List.getD_eq_getElem?_getD,zAF,zZ]
  exact⟨0,⟨by simp[yT],by simp[yv],rfl⟩,by omega⟩
 ·rintro ys ⟨i,rfl,h2⟩
  by_cases h3:i < es.length
  ·have h4:i < (yT stN zGj k (es.take i)++es.drop i).length:=by rw[List.length_append,yz,List.length_take,List.length_drop];omega
   have h5:(yT stN zGj k (es.take i)++es.drop i).length=es.length:=by rw[List.length_append,yz,List.length_take,List.length_drop];omega
   obtain⟨L,hL⟩:∃L,L=yT stN zGj k (es.take i)++es.drop i:=⟨_,rfl⟩
   obtain⟨K,hK⟩:∃K,K=yv stN k (es.take i):=⟨_,rfl⟩
   rw[←hL] at h4 h5
   rw[←hL,←hK]
   have h6:∀x,nth (L.set i x) i=x:=fun x=>zEc h4
   refine hW.vc [] _ _ ?_
   simp[-List.getD_eq_getElem?_getD,zAF,zZ,h6]
   have g1:=zC3 zC4 es k h3
   have g2:=zAd zC4 (es.take i) k
   rw[←hK] at g1 g2
   have g4:stN (nth es i)=2:=rfl
   have e1:IntKind.i64.wrap (K+1)=K+1:=zC (by omega)
   have e2:IntKind.i64.wrap (K+1+1)=K+2:=by rw[zC (by omega)];omega
   have e10:IntKind.i64.wrap ((i:Int)+1)=(i:Int)+1:=zC (by rw[LIM] at hes;omega)
   simp only[e1,e2,e10]
   refine fun _=>⟨fun _=>⟨by omega,h4,⟨i+1,⟨?_,?_,rfl⟩,h3⟩,by omega⟩,fun h=>by omega⟩
   ·rw[zd h3,zDH,hL]
    exact zBY (by rw[yz,List.length_take];omega) h3 (by rw[←hK];rfl)
   ·rw[zd h3,zA8,←hK,g4]
  ·have:i=es.length:=by omega
   subst this
   have h4:yT stN zGj k (es.take es.length)++es.drop es.length=yT stN zGj k es:=by simp
   have h5:(yT stN zGj k es).length=es.length:=yz es k
   rw[h4,List.take_length]
   obtain⟨L,hL⟩:∃L,L=yT stN zGj k es:=⟨_,rfl⟩
   rw[←hL] at h5 ⊢
   have h6:∀x,nth (L.set es.length x) es.length=PV.d:=fun x=>by simp[nth,h5]
   refine hW.vc [] _ _ ?_
   simp[-List.getD_eq_getElem?_getD,zAF,zZ,h6,h5]
   exact fun _=>hL
def yu(k:Int)(e:PV):Bool:=(nth e.A 0).S == zES k&&(nth e.A 1).I == k+1
theorem zJt(k:Int)(e:PV):yu k (zGj k e)=true:=by simp[yu,zGj,zE,zF,zBE,yp,zEW]
theorem zHM(es:List PV)(k:Int):zAf stN yu k (yT stN zGj k es)=yv stN k es:=zDi (m:=zGj) (fun _ _=>rfl) zJt es k
def zAc:zJ:=⟨[(.rd,.list (.agg [.str,.int .i64])),(.rd,.int .i64)],[.int .i64],true,fun ps=>0≤(nth ps 1).I∧yv stN (nth ps 1).I (nth ps 0).L≤1073741823,fun ps=>[.int .i64 (zAf stN yu (nth ps 1).I (nth ps 0).L)],fun _=>[]⟩
theorem zHK:zh Tryz.prog 63 zAc:=by
 refine zP [0,1,4,5] [.tmp 4] (zA (cs:=[]) zA4 (zD (zB []))) mixed Tryz.func63 rfl (by decide) rfl (by decide) rfl ?_
 intro ps hT hpre W hW
 simp only[zAc,TyA,Ty,Tys] at hT hpre
 obtain⟨_,_,rfl,⟨es,rfl,hes,tes⟩,_,_,rfl,⟨k,rfl,hk⟩,rfl⟩:=hT
 simp only[zE,zF,yp,zAA] at hpre
 refine hW.vc [(4,[],tkN [0,1,2,3,4,5] (alS 6 (tkN [7] .done)))] _ _ ?_
 simp[-List.getD_eq_getElem?_getD,zAc,zZ]
 refine hW.loopS _ _ _ [.sl 1 .dp (.int .i64),.sl 5 .dp (.int .i64)] (fun ys=>∃i:Nat,ys=[.int .i64 (yv stN k (es.take i)),.int .i64 i]∧i≤es.length∧zAf stN yu k es=zAf stN yu (yv stN k (es.take i)) (es.drop i)) (fun ys=>es.length - (nth ys 1).I.toNat) ?_ ?_
 ·simp[-List.getD_eq_getElem?_getD,zAc,zZ]
  exact⟨0,⟨by simp[yv],rfl⟩,by omega,by simp[yv]⟩
 ·rintro ys ⟨i,rfl,h2,h3⟩
  refine hW.vc [(4,[],tkN [0,1,2,3,4,5] (alS 6 (tkN [7] .done)))] _ _ ?_
  simp[-List.getD_eq_getElem?_getD,zAc,zZ]
  by_cases h4:i < es.length
  ·have g1:=zC3 zC4 es k h4
   have g2:=zAd zC4 (es.take i) k
   obtain⟨K,hK⟩:∃K,K=yv stN k (es.take i):=⟨_,rfl⟩
   rw[←hK] at g1 g2 h3 ⊢
   have g4:stN (nth es i)=2:=rfl
   rw[zG h4,zAf] at h3
   have no:yu K (nth es i)=false→zAf stN yu k es=-1:=fun q=>by rw[h3,if_neg (by rw[q];simp)]
   have e1:IntKind.i64.wrap (K+1)=K+1:=zC (by omega)
   have e2:IntKind.i64.wrap (K+1+1)=K+2:=by rw[zC (by omega)];omega
   have e10:IntKind.i64.wrap ((i:Int)+1)=(i:Int)+1:=zC (by rw[LIM] at hes;omega)
   simp only[e1,e2,e10]
   have cI:es.length - ((i:Int)+1).toNat < es.length - i:=by omega
   refine fun _=>⟨fun _=>⟨by decide +kernel,h4,fun _=>⟨by omega,fun q=>(no (by simp[yu,q])).symm,fun q0=>⟨h4,fun _=>⟨fun q=>(no (by simp[yu,q])).symm,fun q1=>⟨⟨i+1,⟨?_,rfl⟩,h4,?_⟩,cI⟩⟩⟩⟩⟩,fun h=>by omega⟩
   ·rw[zd h4,zA8,←hK,g4]
   ·have a3:yu K (nth es i)=true:=by simp[yu,q0,q1]
    rw[if_pos a3] at h3
    rw[zd h4,zA8,←hK,h3]
  ·have:i=es.length:=by omega
   subst this
   refine fun _=>⟨fun h=>absurd h (Nat.lt_irrefl _),fun _=>?_⟩
   rw[h3,List.drop_length];rfl
end
section
variable [zS]
def cN1(k:Int)(v:List PV):Int:=yv ndN k (nth v 0).L
def cN2(k:Int)(v:List PV):Int:=yv stN (cN1 k v) (nth v 1).L
def cN3(k:Int)(v:List PV):Int:=zAM (cN2 k v) (nth v 2).L
def cN4(k:Int)(v:List PV):Int:=cN3 k v+(nth v 3).L.length
theorem zQl(k:Int)(v:List PV):k≤cN4 k v:=by
 have a1:=zAd zC7 (nth v 0).L k
 have a2:=zAd zC4 (nth v 1).L (cN1 k v)
 have a3:=zBU (nth v 2).L (cN2 k v)
 unfold cN4 cN3
 unfold cN2 at *
 unfold cN1 at *
 omega
def zBB:zJ:=⟨[(.mt,.agg [.list (.agg [.int .i64,.int .i64,.int .i64,.int .i64,.int .i64,.bool,.list (.agg [.int .i64,.str]),.int .i64,.int .i64,.int .i64,.list (.int .i64),.list (.int .i64),.list (.int .i64)]),.list (.agg [.str,.int .i64]),.list (.agg [.int .i64,.int .i64,.int .i64,.int .i64,.int .i64,.int .i64,.int .i64,.bool,.list (.agg [.int .i64,.str])]),.list .str]),(.rd,.int .i64)],[.int .i64],true,fun ps=>0≤(nth ps 1).I∧cN4 (nth ps 1).I (nth ps 0).A≤1073741823,fun ps=>[.int .i64 (cN4 (nth ps 1).I (nth ps 0).A)],
 fun ps=>[.agg [.list (yT ndN mkN (nth ps 1).I (nth (nth ps 0).A 0).L),.list (yT stN zGj (cN1 (nth ps 1).I (nth ps 0).A) (nth (nth ps 0).A 1).L),.list (yw (cN2 (nth ps 1).I (nth ps 0).A) (nth (nth ps 0).A 2).L),.list (zCa (cN3 (nth ps 1).I (nth ps 0).A) (nth (nth ps 0).A 3).L.length)]]⟩
theorem zF7:zh Tryz.prog 19 zBB:=by
 refine zP [0,1,2,4] [.tmp 4] (zA (cs:=[]) zF6 (zA (cs:=[]) zFJ (zA (cs:=[]) zHI (zA (cs:=[]) zII (zD (zB [])))))) mixed Tryz.func19 rfl (by decide) rfl (by decide) rfl ?_
 intro ps hT hpre W hW
 simp only[zBB,TyA,Ty,Tys] at hT hpre
 obtain⟨_,_,rfl,⟨_,rfl,_,_,rfl,⟨ns,rfl,hns,tns⟩,_,_,rfl,⟨ss,rfl,hss,tss⟩,_,_,rfl,⟨ws,rfl,hws,tws⟩,_,_,rfl,⟨ds,rfl,hds,tds⟩,rfl⟩,_,_,rfl,⟨k,rfl,hk⟩,rfl⟩:=hT
 simp only[zE,zF,yp,zAA,zBE,cN4,cN3,cN2,cN1] at hpre
 have a1:=zAd zC7 ns k
 have a2:=zAd zC4 ss (yv ndN k ns)
 have a3:=zBU ws (yv stN (yv ndN k ns) ss)
 refine hW.vc [] _ _ ?_
 simp[-List.getD_eq_getElem?_getD,zBB,zAY,zAF,yW,zAK,cN4,cN3,cN2,cN1]
 exact⟨⟨by omega,by omega⟩,⟨by omega,by omega⟩,⟨by omega,by omega⟩,by omega,by omega⟩
def zGG(k:Int)(ns ss ws ds:List PV):Int:=if zAf ndN yK k ns < 0 then -1 else if zAf stN yu (zAf ndN yK k ns) ss < 0 then -1 else if zBV (zAf stN yu (zAf ndN yK k ns) ss) ws < 0 then -1 else zn zDS 1 (zBV (zAf stN yu (zAf ndN yK k ns) ss) ws) ds
theorem zGH{d:PV→Int}{f:Int→PV→Bool}(hd:∀e,0≤d e):∀{es:List PV} {k:Int},0≤k→zAf d f k es=-1∨zAf d f k es=yv d k es
 | [],k,hk=>.inr rfl
 | e :: es,k,hk=>by
  simp only[zAf,yv]
  split
  ·exact zGH hd (es:=es) (k:=k+d e) (by have:=hd e;omega)
  ·exact .inl rfl
theorem zHN:∀{es:List PV} {k:Int},0≤k→zBV k es=-1∨zBV k es=zAM k es
 | [],k,hk=>.inr rfl
 | e :: es,k,hk=>by
  simp only[zBV,zAM]
  split
  ·exact zHN (es:=es) (k:=k+msN e) (by unfold msN;omega)
  ·exact .inl rfl
def zBC:zJ:=⟨[(.rd,.agg [.list (.agg [.int .i64,.int .i64,.int .i64,.int .i64,.int .i64,.bool,.list (.agg [.int .i64,.str]),.int .i64,.int .i64,.int .i64,.list (.int .i64),.list (.int .i64),.list (.int .i64)]),.list (.agg [.str,.int .i64]),.list (.agg [.int .i64,.int .i64,.int .i64,.int .i64,.int .i64,.int .i64,.int .i64,.bool,.list (.agg [.int .i64,.str])]),.list .str]),(.rd,.int .i64)],[.int .i64],true,fun ps=>0≤(nth ps 1).I∧cN4 (nth ps 1).I (nth ps 0).A≤1073741823,fun ps=>[.int .i64 (zGG (nth ps 1).I (nth (nth ps 0).A 0).L (nth (nth ps 0).A 1).L (nth (nth ps 0).A 2).L (nth (nth ps 0).A 3).L)],fun _=>[]⟩
theorem zGA:zh Tryz.prog 21 zBC:=by
 refine zP [0,1,2,4] [.tmp 4] (zA (cs:=[]) zF9 (zA (cs:=[]) zFL (zA (cs:=[]) zHK (zA (cs:=[]) zIL (zD (zB [])))))) mixed Tryz.func21 rfl (by decide) rfl (by decide) rfl ?_
 intro ps hT hpre W hW
 simp only[zBC,TyA,Ty,Tys] at hT hpre
 obtain⟨_,_,rfl,⟨_,rfl,_,_,rfl,⟨ns,rfl,hns,tns⟩,_,_,rfl,⟨ss,rfl,hss,tss⟩,_,_,rfl,⟨ws,rfl,hws,tws⟩,_,_,rfl,⟨ds,rfl,hds,tds⟩,rfl⟩,_,_,rfl,⟨k,rfl,hk⟩,rfl⟩:=hT
 simp only[zE,zF,yp,zAA,zBE,cN4,cN3,cN2,cN1] at hpre
 have a1:=zAd zC7 ns k
 have a2:=zAd zC4 ss (yv ndN k ns)
 have a3:=zBU ws (yv stN (yv ndN k ns) ss)
 have b1:=zGH (f:=yK) zC7 (es:=ns) hpre.1
 refine hW.vc [] _ _ ?_
 simp[-List.getD_eq_getElem?_getD,zBC,zAr,zAc,yn,zAL]
 refine⟨⟨hpre.1,by omega⟩,fun q=>by rw[zGG,if_pos q],fun q1=>?_⟩
 have c1:zAf ndN yK k ns=yv ndN k ns:=b1.resolve_left (fun e=>absurd q1 (by rw[e];decide))
 have b2:=zGH (f:=yu) zC4 (es:=ss) (k:=yv ndN k ns) (by omega)
 have n1:=Int.not_lt.2 q1
 refine⟨⟨q1,by rw[c1];omega⟩,fun q=>by rw[zGG,if_neg n1,if_pos q],fun q2=>?_⟩
 have c2:zAf stN yu (zAf ndN yK k ns) ss=yv stN (yv ndN k ns) ss:=by
  rw[c1] at q2 ⊢
  exact b2.resolve_left (fun e=>absurd q2 (by rw[e];decide))
 have b3:=zHN (es:=ws) (k:=yv stN (yv ndN k ns) ss) (by omega)
 have n2:=Int.not_lt.2 q2
 refine⟨⟨q2,by rw[c2];omega⟩,fun q=>by rw[zGG,if_neg n1,if_neg n2,if_pos q],fun q3=>?_⟩
 have c3:zBV (zAf stN yu (zAf ndN yK k ns) ss) ws=zAM (yv stN (yv ndN k ns) ss) ws:=by
  rw[c2] at q3 ⊢
  exact b3.resolve_left (fun e=>absurd q3 (by rw[e];decide))
 have n3:=Int.not_lt.2 q3
 refine⟨⟨q3,by rw[c3];omega⟩,fun q=>?_,fun _=>by rw[zGG,if_neg n1,if_neg n2,if_neg n3]⟩
 rw[zGG,if_neg n1,if_neg n2,if_neg n3]
 exact(zI4 (f:=zDS) (d:=1) (by omega) q3 q).symm
theorem zJv{k:Int}{ns ss ws ds:List PV}(h:0≤k):zGG k (yT ndN mkN k ns) (yT stN zGj (yv ndN k ns) ss) (yw (yv stN (yv ndN k ns) ss) ws) (zCa (zAM (yv stN (yv ndN k ns) ss) ws) ds.length)=cN4 k [.list ns,.list ss,.list ws,.list ds]:=by
 have a1:=zAd zC7 ns k
 have a2:=zAd zC4 ss (yv ndN k ns)
 have a3:=zBU ws (yv stN (yv ndN k ns) ss)
 rw[zGG,zIR,zHM,zEm,zJu,if_neg (by omega),if_neg (by omega),if_neg (by omega)]
 rfl
end
section
variable [zS]
theorem Sm.clu{c:CL}(h:Sm c):zFe [.list c.ns,.list c.ss,.list c.ws,.list c.ds]:=by
 have nl:=h.nl;have sl:=h.sl;have wl:=h.wl;have dl:=h.dl
 refine⟨⟨by simp only[zE,zAA];omega,fun e he=>?_⟩,by simp only[zE,zF,zAA];omega,⟨by simp only[zE,zF,zAA];omega,fun e he=>?_⟩,by simp only[zE,zF,zAA];omega⟩
 ·obtain⟨a,b,c,d⟩:=h.n e he
  exact⟨by omega,by omega,by omega,by omega⟩
 ·have:=h.w e he;omega
theorem zFU{d:PV→Int}{k0:Int}:∀{es:List PV} {k:Int},(∀e∈es,d e≤k0)→yv d k es≤k+k0*es.length
 | [],k,_=>by simp[yv]
 | e :: es,k,h=>by
  have h1:=h e (by simp)
  have ih:=zFU (es:=es) (k:=k+d e) fun x hx=>h x (by simp[hx])
  simp only[yv,List.length_cons]
  rw[show((es.length+1:Nat):Int)=es.length+1 by omega,Int.mul_add]
  omega
theorem zH9{x:ND}(h1:x.log.length≤5000)(h2:x.vs.length≤5000)(h3:x.nx.length≤5000)(h4:x.ms.length≤5000):zWR x.pv:=⟨h1,h2,h3,h4⟩
theorem zW1{x:ND}(h:NdF x):zWR x.pv:=by
 have n1:=h.n1;have n5:=h.n5;have l6:=h.l6;have nx:=h.nx;have ms:=h.ms
 have:=zJD h.vo (by omega)
 exact zH9 (by omega) (by omega) (by omega) (by omega)
theorem ClI.sm{c:CL}(h:ClI c):Sm c:=by
 have n5:=h.n5;have sl:=h.sl;have wl:=h.wl;have dl:=h.dl
 refine⟨by omega,fun e he=>?_,by omega,by omega,fun e he=>h.es he,by omega⟩
 obtain⟨i,hi,rfl⟩:=List.getElem_of_mem he
 obtain⟨x,b,h1,_,h3⟩:=h.nd i hi
 have:c.ns[i]=x.pv:=by rw[←h1,zHX hi]
 rw[this]
 exact zW1 h3.F
theorem zHh{ws sent:List PV}{e:PV}(h:e∈zLn ws sent):e∈ws∨e∈sent:=by
 rcases List.mem_append.1 h with h | h
 ·exact .inl h
 ·exact .inr (List.mem_of_mem_take h)
theorem zUN{l:List PV}{i:Nat}{x e:PV}(h:e∈l.set i x):e=x∨e∈l:=by
 rcases List.mem_or_eq_of_mem_set h with h | h
 ·exact .inr h
 ·exact .inl h
theorem zag{c:CL}(h:ClI c){x:ND}{sent:List PV}(hx:zWR x.pv)(hl:x.log.length≤1000)(hs:∀e∈sent,(nth e.A 8).L.length≤5000):Sm (zKm c x sent).1:=by
 have hS:=h.sm
 unfold zKm
 split
 ·refine⟨by simpa using hS.nl,fun e he=>?_,by simpa using hS.sl,?_,fun e he=>?_,?_⟩
  ·rcases zUN he with rfl | he
   ·exact hx
   ·exact hS.n e he
  ·have:=h.wl
   show(zLn c.ws sent).length≤5000
   simp only[zLn,List.length_append,List.length_take];omega
  ·rcases zHh he with he | he
   ·exact hS.w e he
   ·exact hs e he
  ·have:=h.dl
   show(zFi c.ds x.log x.com).length≤5000
   simp only[zFi,List.length_append,List.length_map,List.length_drop,List.length_take];omega
 ·exact hS
theorem zNG(n:ND):∀k:Nat,∀e∈zAx n k,(nth e.A 8).L.length≤n.log.length
 | 0,e,he=>by simp[zAx] at he
 | k+1,e,he=>by
  rw[zAx] at he
  rcases List.mem_append.1 he with he | he
  ·exact zNG n k e he
  ·split at he
   ·simp at he
   ·rw[List.mem_singleton.1 he]
    show(n.log.drop ((nth n.nx ((k:Int)).toNat).I.toNat - 1)).length≤n.log.length
    rw[List.length_drop];omega
theorem zRF(n:ND):∀k:Nat,∀e∈zAl n k,(nth e.A 8).L.length≤0
 | 0,e,he=>by simp[zAl] at he
 | k+1,e,he=>by
  rw[zAl] at he
  rcases List.mem_append.1 he with he | he
  ·exact zRF n k e he
  ·split at he
   ·simp at he
   ·rw[List.mem_singleton.1 he]
    exact Nat.le_refl _
theorem za6{n:ND}{d:Int}(h:NdF n):∀e∈(zBD n d).2,(nth e.A 8).L.length≤5000:=by
 have l6:=h.l6
 unfold zBD
 split
 ·split
  ·simp
  ·intro e he
   have:=zNG _ _ e he
   have e1:({ n with ela:=0 }:ND).log=n.log:=rfl
   rw[e1] at this
   omega
 ·split
  ·simp
  ·unfold zEH
   split
   ·intro e he
    have:=zNG _ _ e he
    have e1:(zCm (zBf n d)).log=yq (n.term+1) n.log:=rfl
    have h2:=(zP7 (n.term+1) n.log).2
    rw[e1] at this
    omega
   ·intro e he
    have:=zRF _ _ e he
    omega
theorem zXT:∀{es:List PV} {s:ST},s.log.length≤60→(zBK s es).1.log.length≤60
 | [],s,h=>h
 | e :: es,s,h=>by
  rw[zBK]
  split
  ·rename_i h1
   refine zXT ?_
   cases hc:zNs s e.S with
   | none=>rw[zT4 hc];simp[ST.no]
   | some o=>
    rw[zQn hc] at h1 ⊢
    exact(ST.facts h1).2.2.2
  ·exact h
theorem rcv_l(b:List UInt8):(yP b).1.log.length≤60:=by
 unfold yP
 split
 ·simp[ST.no]
 ·split
  ·exact zXT (by simp[ST.one])
  ·simp[ST.no]
theorem zeo{c:CL}(h:Sm c){i:Nat}{x:PV}{s:PV}(hx:zWR x):Sm ⟨c.ns.set i x,c.ss.set i s,c.ws,c.ds⟩:=by
 refine⟨by simpa using h.nl,fun e he=>?_,by simpa using h.sl,h.wl,h.w,h.dl⟩
 rcases zUN he with rfl | he
 ·exact hx
 ·exact h.n e he
theorem zet{c:CL}(h:ClI c)(a:CA)(ha:inB a.node 0 (c.ns.length - 1)=true):Sm (zIz c a).1:=by
 have ha:=zk.1 ha
 obtain⟨i,hi⟩:∃i:Nat,a.node=i:=⟨a.node.toNat,by omega⟩
 have hil:i < c.ns.length:=by omega
 have n5:=h.n5
 have hS:=h.sm
 obtain⟨a1,a2,a3,a4⟩:=h.at hil
 unfold zIz
 rw[hi,Int.toNat_natCast]
 split
 ·split
  ·exact hS
  ·refine⟨by simpa using hS.nl,fun e he=>?_,hS.sl,hS.wl,hS.w,hS.dl⟩
   rcases zUN he with rfl | he
   ·exact zW1 (zHW a4.F)
   ·exact hS.n e he
 ·split
  ·exact hS
  ·split
   ·unfold zPD
    rw[Int.toNat_natCast]
    refine zeo hS (zH9 ?_ ?_ ?_ ?_)
    ·exact Nat.le_trans (rcv_l _) (by omega)
    ·show([]:List PV).length≤5000;simp
    ·show(List.replicate _ _).length≤5000
     rw[List.length_replicate];omega
    ·show(List.replicate _ _).length≤5000
     rw[List.length_replicate];omega
   ·split
    ·unfold zCy
     split
     ·exact hS
     ·rename_i hr
      have hr:(zJY (yH c.ns i) a.n).2.2=0:=Decidable.byContradiction hr
      unfold zJY at hr ⊢
      rw[zIo a4.F] at hr ⊢
      simp only[cond_true] at hr ⊢
      cases c2:inB a.n 0 1000000 with
      | false=>rw[c2] at hr;simp at hr
      | true=>
       rw[c2] at hr
       simp only[cond_true] at hr ⊢
       have hd:=zk.1 c2
       cases c3:(yH c.ns i).up with
       | false=>rw[c3] at hr;simp at hr
       | true=>
        have hF:=zPS (d:=a.n) a4.F hd.1 c3
        have l6:=hF.l6
        exact zag h (zW1 hF) (show(zBD (yH c.ns i) a.n).1.log.length≤1000 by omega) (za6 a4.F)
    ·split
     ·exact hS
     ·unfold zCy
      split
      ·exact hS
      ·rename_i hr
       have hr:(zJX (yH c.ns i) a.data).2.2=0:=Decidable.byContradiction hr
       unfold zJX at hr ⊢
       split at hr
       ·simp at hr
       ·rename_i hl
        rw[if_neg hl]
        rw[zIo a4.F] at hr ⊢
        simp only[cond_true] at hr ⊢
        cases c2:inB a.data.length 1 400 with
        | false=>rw[c2] at hr;simp at hr
        | true=>
         rw[c2] at hr
         simp only[cond_true] at hr ⊢
         unfold zHG at hr ⊢
         split at hr
         ·simp at hr
         ·rename_i c3
          rw[if_neg c3]
          split at hr
          ·simp at hr
          ·rename_i c4
           rw[if_neg c4]
           split at hr
           ·simp at hr
           ·rename_i c5
            rw[if_neg c5]
            have l6:=a4.F.l6
            obtain⟨s1,s2,s3,s4⟩:=zW1 a4.F
            have hll:(yG (yH c.ns i) a.data).log.length=(yH c.ns i).log.length+1:=by
             show((yH c.ns i).log++[_]).length=_
             simp
            refine zag h (zH9 (show(yG (yH c.ns i) a.data).log.length≤5000 by omega) s2 s3 s4) (show(yG (yH c.ns i) a.data).log.length≤1000 by omega) fun e he=>?_
            have:=zNG _ _ e he
            omega
theorem zXG{c:CL}(h:ClI c)(a:CA):Sm (zAS c a).1:=by
 by_cases hw:zYK a.kind=true
 ·exact(zNb h a hw).1.sm
 ·unfold zAS
  rw[if_neg hw]
  split
  ·split
   ·exact h.sm
   ·rename_i ha
    exact zet h a (by simpa using ha)
  ·exact h.sm
theorem zJG:∀(es:List PV) (k:Int),zAM k es=yv msN k es
 | [],_=>rfl
 | e :: es,k=>by simp only[zAM,yv];exact zJG es _
theorem Sm.cN{c:CL}(h:Sm c):0≤cN4 1 [.list c.ns,.list c.ss,.list c.ws,.list c.ds]∧cN4 1 [.list c.ns,.list c.ss,.list c.ws,.list c.ds]≤300000000:=by
 have g:=zQl 1 [.list c.ns,.list c.ss,.list c.ws,.list c.ds]
 refine⟨by omega,?_⟩
 have nl:=h.nl;have sl:=h.sl;have wl:=h.wl;have dl:=h.dl
 have a1:=zFU (d:=ndN) (k0:=25009) (k:=1) (es:=c.ns) fun e he=>by
  obtain⟨a,b,c,d⟩:=h.n e he
  unfold ndN;omega
 have a2:=zFU (d:=stN) (k0:=2) (k:=cN1 1 [.list c.ns,.list c.ss,.list c.ws,.list c.ds]) (es:=c.ss) fun e he=>by simp[stN]
 have a3:=zFU (d:=msN) (k0:=10008) (k:=cN2 1 [.list c.ns,.list c.ss,.list c.ws,.list c.ds]) (es:=c.ws) fun e he=>by
  have:=h.w e he
  unfold msN;omega
 rw[←zJG] at a3
 unfold cN4 cN3
 unfold cN2 at *
 unfold cN1 at *
 simp only[zE,zF,zAA] at *
 omega
theorem zOd:Sm ⟨[],[],[],[]⟩:=⟨by simp,by simp,by simp,by simp,by simp,by simp⟩
end
section
variable [zS]
theorem zTh{f:PV→Int}(hf:∀e,0≤f e){es:List PV}{l:Int}(h:0≤zLo f es l):(es.length:Int)≤l - zLo f es l:=by
 unfold zLo at h ⊢
 split at h
 ·omega
 ·rename_i q
  rw[if_neg q]
  have:=zPY hf (es:=es) (l:=l - es.length) (by omega)
  omega
theorem zNH{l:Int}{n:Nat}(h:0≤zFH l n):(n:Int)≤l - zFH l n:=by
 unfold zFH at h ⊢
 split at h<;>rename_i q
 ·omega
 ·rw[if_neg q];omega
theorem zUK{e:PV}{l:Int}(h:0≤zKw e l):ndN e≤9+2*(l - zKw e l):=by
 unfold zKw szN szQ at h ⊢
 split at h
 ·omega
 ·rename_i q1
  rw[if_neg q1]
  have a1:=zTh zCZ (es:=(nth e.A 6).L) (l:=l) (by omega)
  split at h
  ·omega
  ·rename_i q2
   rw[if_neg q2]
   have a2:=zNH (l:=zLo zEb (nth e.A 6).L l) (n:=(nth e.A 10).L.length) (by omega)
   split at h
   ·omega
   ·rename_i q3
    rw[if_neg q3]
    have a3:=zNH (l:=zFH (zLo zEb (nth e.A 6).L l) (nth e.A 10).L.length) (n:=(nth e.A 11).L.length) (by omega)
    have a4:=zNH h
    unfold ndN;omega
theorem zPZ{f:PV→Int→Int}{d:PV→Int}(hd:∀e,0≤d e)(hf:∀e l,0≤f e l→d e≤9+2*(l - f e l)):∀{es:List PV} {l k:Int},0≤szF f es l→yv d k es≤k+9*es.length+2*(l - szF f es l)
 | [],l,k,_=>by simp[yv,szF]
 | e :: es,l,k,h=>by
  simp only[szF] at h ⊢
  split at h
  ·omega
  ·rename_i q
   rw[if_neg q]
   have h1:=hf e l (by omega)
   have ih:=zPZ hd hf (es:=es) (l:=f e l) (k:=k+d e) h
   simp only[yv,List.length_cons]
   omega
theorem zKB{f:PV→Int→Int}{d:PV→Int}(hd:∀e,0≤d e)(hf:∀e l,0≤f e l→d e≤9+2*(l - f e l))(hf2:∀e l,0≤l→-1≤f e l∧f e l≤l){es:List PV}{l k:Int}(h:0≤zEV f es l):yv d k es≤k+9*(l - zEV f es l):=by
 unfold zEV at h ⊢
 split at h
 ·omega
 ·rename_i q
  rw[if_neg q]
  have:=zPZ hd hf (es:=es) (l:=l - es.length) (k:=k) h
  have:=(zLu hf2 (es:=es) (l:=l - es.length) (by omega)).2.1
  omega
theorem zM7:∀{es:List PV} {l:Int},0≤l→zPX l es≤l
 | [],l,_=>by simp[zPX]
 | e :: es,l,h=>by
  simp only[zPX]
  split
  ·omega
  ·have:=zM7 (es:=es) (l:=l - e.S.length) (by omega)
   omega
theorem zUM{es:List PV}{l:Int}(h:0≤zHQ es l):(es.length:Int)≤l - zHQ es l:=by
 unfold zHQ at h ⊢
 split at h
 ·omega
 ·rename_i q
  rw[if_neg q]
  have:=zM7 (es:=es) (l:=l - es.length) (by omega)
  omega
theorem zPa{v:List PV}{l:Int}(h:0≤zKx v l):cN4 1 v≤1+9*l:=by
 unfold zKx zZB at h
 split at h
 ·omega
 ·rename_i q1
  have a1:=zKB (d:=ndN) (k:=1) zC7 (fun e l h=>zUK h) zKA (es:=(nth v 0).L) (l:=l) (by omega)
  split at h
  ·omega
  ·rename_i q2
   have a2:=zKB (d:=stN) (k:=cN1 1 v) zC4 (fun e l h=>by have:=zNH (n:=(nth e.A 0).S.length) h;simp only[stN];unfold zNz at h ⊢;omega) zMF (es:=(nth v 1).L) (l:=zEV zKw (nth v 0).L l) (by omega)
   split at h
   ·omega
   ·rename_i q3
    have a3:=zKB (d:=msN) (k:=cN2 1 v) (fun e=>by unfold msN;omega) (fun e l h=>by have:=zTh zCZ (es:=(nth e.A 8).L) h;unfold msN zPV at *;omega) zMG (es:=(nth v 2).L) (l:=zEV zNz (nth v 1).L (zEV zKw (nth v 0).L l)) (by omega)
    rw[←zJG] at a3
    have a4:=zUM h
    unfold cN4 cN3
    unfold cN2 at *
    unfold cN1 at *
    omega
end
section
variable [zS]
def zBb:zJ:=⟨[(.rd,.agg [.int .i64,.int .i64,.int .i64,.int .i64,.str]),(.rd,.int .i64)],[.int .i64],true,fun ps=>0≤(nth ps 1).I,fun ps=>[.int .i64 (zFH (nth ps 1).I (nth (nth ps 0).A 4).S.length)],fun _=>[]⟩
theorem zJN:zh Tryz.prog 24 zBb:=by
 refine zP [0,1,2,4] [.tmp 4] (zD (zB [])) mixed Tryz.func24 rfl (by decide) rfl (by decide) rfl ?_
 intro ps hT hpre W hW
 simp only[zBb,TyA,Ty,Tys] at hT hpre
 obtain⟨_,_,rfl,⟨_,rfl,_,_,rfl,⟨ak,rfl,hak⟩,_,_,rfl,⟨an,rfl,han⟩,_,_,rfl,⟨aw,rfl,haw⟩,_,_,rfl,⟨ap,rfl,hap⟩,_,_,rfl,⟨ad,rfl,had⟩,rfl⟩,_,_,rfl,⟨l,rfl,hl⟩,rfl⟩:=hT
 simp only[zE,zF,yp] at hpre
 refine hW.vc [] _ _ ?_
 simp[-List.getD_eq_getElem?_getD,zBb]
 intro h1
 rw[zHR] at hl
 rw[zC (by omega)]
 exact⟨fun h=>by rw[zFH,if_pos h],fun h=>by rw[zFH,if_neg (Int.not_lt.2 h)]⟩
def zBa:zJ:=⟨[(.rd,.agg [.int .i64,.int .i64,.int .i64,.int .i64,.str])],[.agg [.int .i64,.int .i64,.int .i64,.int .i64,.str]],true,fun _=>True,fun ps=>[nth ps 0],fun _=>[]⟩
theorem zJM:zh Tryz.prog 27 zBa:=by
 refine zP [0,1,2,3] [.cell 2 54] (zD (zB [])) mixed Tryz.func27 rfl (by decide) rfl (by decide) rfl ?_
 intro ps hT hpre W hW
 simp only[zBa,TyA,Ty,Tys] at hT hpre
 obtain⟨_,_,rfl,⟨_,rfl,_,_,rfl,⟨ak,rfl,hak⟩,_,_,rfl,⟨an,rfl,han⟩,_,_,rfl,⟨aw,rfl,haw⟩,_,_,rfl,⟨ap,rfl,hap⟩,_,_,rfl,⟨ad,rfl,had⟩,rfl⟩,rfl⟩:=hT
 refine hW.vc [] _ _ ?_
 simp[-List.getD_eq_getElem?_getD,zBa]
end
section
variable [zS]
def yo:zJ:=⟨[(.rd,.list (.agg [.str,.int .i64]))],[.list (.agg [.str,.int .i64])],true,fun ps=>(nth ps 0).L.length≤1048576,fun ps=>[.list (nth ps 0).L],fun _=>[]⟩
theorem zJn:zh Tryz.prog 124 yo:=by
 refine zP [0,2] [.tmp 2] (zD (zB [])) mixed Tryz.func124 rfl (by decide) rfl (by decide) rfl ?_
 intro ps hT hpre W hW
 simp only[yo,TyA,Ty,Tys] at hT hpre
 obtain⟨_,_,rfl,⟨es,rfl,hes,tes⟩,rfl⟩:=hT
 simp only[zE,zAA] at hpre
 refine hW.vc [] _ _ ?_
 simp[-List.getD_eq_getElem?_getD,yo]
 omega
def zL:zJ:=⟨[(.rd,.agg [.list (.agg [.int .i64,.int .i64,.int .i64,.int .i64,.int .i64,.bool,.list (.agg [.int .i64,.str]),.int .i64,.int .i64,.int .i64,.list (.int .i64),.list (.int .i64),.list (.int .i64)]),.list (.agg [.str,.int .i64]),.list (.agg [.int .i64,.int .i64,.int .i64,.int .i64,.int .i64,.int .i64,.int .i64,.bool,.list (.agg [.int .i64,.str])]),.list .str])],[.agg [.list (.agg [.int .i64,.int .i64,.int .i64,.int .i64,.int .i64,.bool,.list (.agg [.int .i64,.str]),.int .i64,.int .i64,.int .i64,.list (.int .i64),.list (.int .i64),.list (.int .i64)]),.list (.agg [.str,.int .i64]),.list (.agg [.int .i64,.int .i64,.int .i64,.int .i64,.int .i64,.int .i64,.int .i64,.bool,.list (.agg [.int .i64,.str])]),.list .str]],true,fun ps=>zFe (nth ps 0).A,fun ps=>[nth ps 0],fun _=>[]⟩
set_option maxHeartbeats 2000000 in
theorem zFM:zh Tryz.prog 76 zL:=by
 refine zP [0,1,2,3,5,7,16,17,18,31,32,33] [.cell 2 29] (zA (cs:=[]) zHA (zA (cs:=[]) zGt (zA (cs:=[]) zNV (zA (cs:=[]) zJn (zD (zB [])))))) mixed Tryz.func76 rfl (by decide) rfl (by decide) rfl ?_
 intro ps hT hpre W hW
 simp only[zL,TyA,Ty,Tys] at hT hpre
 obtain⟨_,_,rfl,⟨_,rfl,_,_,rfl,⟨ns,rfl,hns,tns⟩,_,_,rfl,⟨ss,rfl,hss,tss⟩,_,_,rfl,⟨ws,rfl,hws,tws⟩,_,_,rfl,⟨ds,rfl,hds,tds⟩,rfl⟩,rfl⟩:=hT
 simp only[zE,zF,zBE,zAA,zFe] at hpre
 obtain⟨⟨p1,p2⟩,p3,⟨p4,p5⟩,p6⟩:=hpre
 refine hW.vc [] _ _ ?_
 simp[-List.getD_eq_getElem?_getD,zL,yo,zAw,yy,z6,zj]
 refine hW.cutS [_] _ _ [.nb 3 29 [.list (.agg [.int .i64,.int .i64,.int .i64,.int .i64,.int .i64,.bool,.list (.agg [.int .i64,.str]),.int .i64,.int .i64,.int .i64,.list (.int .i64),.list (.int .i64),.list (.int .i64)]),.list (.agg [.str,.int .i64]),.list (.agg [.int .i64,.int .i64,.int .i64,.int .i64,.int .i64,.int .i64,.int .i64,.bool,.list (.agg [.int .i64,.str])]),.list .str]] (fun ys=>ys=[.agg [.list [],.list ss,.list [],.list ds]]) ?_ ?_
 ·refine hW.vc [(1,[8],tkN [0,1,3,4] (.alt 2 (.alt 5 (tkN [6] (alN [7,8] .done)) (alN [7,5] (tkN [6] (alS 8 .done)))) (alN [7,2,5] (tkN [6] (alS 8 .done)))))] _ _ ?_
  simp[-List.getD_eq_getElem?_getD,zL,yo,zAw,yy,z6,zj]
  exact⟨by decide +kernel,p3,p6⟩
 rintro _ rfl
 refine hW.vc [(1,[8],tkN [0,1,3,4] (.alt 2 (.alt 5 (tkN [6] (alN [7,8] .done)) (alN [7,5] (tkN [6] (alS 8 .done)))) (alN [7,2,5] (tkN [6] (alS 8 .done))))),(5,[5,7],tkN [0,1,2] (alN [3,4,5] (tkN [6] (alS 7 .done)))),(10,[5,7],tkN [0,1,2] (alN [3,4,5] (tkN [6] (alS 7 .done))))] _ _ ?_
 simp[-List.getD_eq_getElem?_getD,zL,yo,zAw,yy,z6,zj]
 intro _
 refine hW.loopS _ _ _ [.bx 3 [.list (.agg [.int .i64,.int .i64,.int .i64,.int .i64,.int .i64,.bool,.list (.agg [.int .i64,.str]),.int .i64,.int .i64,.int .i64,.list (.int .i64),.list (.int .i64),.list (.int .i64)]),.list (.agg [.str,.int .i64]),.list (.agg [.int .i64,.int .i64,.int .i64,.int .i64,.int .i64,.int .i64,.int .i64,.bool,.list (.agg [.int .i64,.str])]),.list .str],.sl 18 .dp (.int .i64)] (fun ys=>∃i:Nat,ys=[.agg [.list (ns.take i),.list ss,.list [],.list ds],.int .i64 i]∧i≤ns.length) (fun ys=>ns.length - (nth ys 1).I.toNat) ?_ ?_
 ·simp[-List.getD_eq_getElem?_getD,zL,yo,zAw,yy,z6,zj]
  exact⟨0,⟨.inl rfl,rfl⟩,by omega⟩
 ·rintro ys ⟨i,rfl,g1⟩
  have w1:IntKind.i64.wrap ((i:Int)+1)=i+1:=zC (by omega)
  refine hW.vc [(1,[8],tkN [0,1,3,4] (.alt 2 (.alt 5 (tkN [6] (alN [7,8] .done)) (alN [7,5] (tkN [6] (alS 8 .done)))) (alN [7,2,5] (tkN [6] (alS 8 .done))))),(5,[5,7],tkN [0,1,2] (alN [3,4,5] (tkN [6] (alS 7 .done)))),(10,[5,7],tkN [0,1,2] (alN [3,4,5] (tkN [6] (alS 7 .done))))] _ _ ?_
  simp[-List.getD_eq_getElem?_getD,zL,yo,zAw,yy,z6,zj,zj,w1]
  refine⟨fun h=>⟨h,?_⟩,fun h _=>?_⟩
  ·clear hW
   intros
   have hq:=p2 _ (zb h)
   obtain⟨_,he,_,_,rfl,⟨_,rfl,_⟩,_,_,rfl,⟨_,rfl,_⟩,_,_,rfl,⟨_,rfl,_⟩,_,_,rfl,⟨_,rfl,_⟩,_,_,rfl,⟨_,rfl,_⟩,_,_,rfl,⟨_,rfl⟩,_,_,rfl,⟨_,rfl,_,_⟩,_,_,rfl,⟨_,rfl,_⟩,_,_,rfl,⟨_,rfl,_⟩,_,_,rfl,⟨_,rfl,_⟩,_,_,rfl,⟨_,rfl,_,_⟩,_,_,rfl,⟨_,rfl,_,_⟩,_,_,rfl,⟨_,rfl,_,_⟩,rfl⟩:=tns _ (zb h)
   refine⟨by decide +kernel,hq,by omega,fun _=>⟨⟨i+1,⟨?_,by omega⟩,by omega⟩,by omega⟩⟩
   rw[zd h,he];rfl
  ·rw[List.take_of_length_le h]
   refine hW.loopS _ _ _ [.bx 3 [.list (.agg [.int .i64,.int .i64,.int .i64,.int .i64,.int .i64,.bool,.list (.agg [.int .i64,.str]),.int .i64,.int .i64,.int .i64,.list (.int .i64),.list (.int .i64),.list (.int .i64)]),.list (.agg [.str,.int .i64]),.list (.agg [.int .i64,.int .i64,.int .i64,.int .i64,.int .i64,.int .i64,.int .i64,.bool,.list (.agg [.int .i64,.str])]),.list .str],.sl 33 .dp (.int .i64)] (fun ys=>∃i:Nat,ys=[.agg [.list ns,.list ss,.list (ws.take i),.list ds],.int .i64 i]∧i≤ws.length) (fun ys=>ws.length - (nth ys 1).I.toNat) ?_ ?_
   ·simp[-List.getD_eq_getElem?_getD,zL,yo,zAw,yy,z6,zj]
    exact⟨0,⟨.inl rfl,rfl⟩,by omega⟩
   ·rintro ys ⟨i,rfl,g1⟩
    have w1:IntKind.i64.wrap ((i:Int)+1)=i+1:=zC (by omega)
    refine hW.vc [(1,[8],tkN [0,1,3,4] (.alt 2 (.alt 5 (tkN [6] (alN [7,8] .done)) (alN [7,5] (tkN [6] (alS 8 .done)))) (alN [7,2,5] (tkN [6] (alS 8 .done))))),(5,[5,7],tkN [0,1,2] (alN [3,4,5] (tkN [6] (alS 7 .done)))),(10,[5,7],tkN [0,1,2] (alN [3,4,5] (tkN [6] (alS 7 .done))))] _ _ ?_
    simp[-List.getD_eq_getElem?_getD,zL,yo,zAw,yy,z6,zj,w1]
    refine⟨fun h=>⟨h,?_⟩,fun h=>?_⟩
    ·clear hW
     intros
     have hq:=p5 _ (zb h)
     obtain⟨_,he,_,_,rfl,⟨_,rfl,_⟩,_,_,rfl,⟨_,rfl,_⟩,_,_,rfl,⟨_,rfl,_⟩,_,_,rfl,⟨_,rfl,_⟩,_,_,rfl,⟨_,rfl,_⟩,_,_,rfl,⟨_,rfl,_⟩,_,_,rfl,⟨_,rfl,_⟩,_,_,rfl,⟨_,rfl⟩,_,_,rfl,⟨_,rfl,_,_⟩,rfl⟩:=tws _ (zb h)
     refine⟨by decide +kernel,hq,by omega,fun _=>⟨⟨i+1,⟨?_,by omega⟩,by omega⟩,by omega⟩⟩
     rw[zd h,he];rfl
    ·exact List.take_of_length_le h
end
section
variable [zS]
theorem zP1{n:Int}{e:PV}(h:(mgB (yk e.A)=false∨n≤(nth e.A 2).I)∨n≤(nth e.A 1).I):mgX n e=true:=by
 unfold mgX
 rcases h with (h | h) | h
 ·simp[h]
 ·have:decide (n≤(yk e.A).to)=true:=decide_eq_true h
  simp[this]
 ·have:decide (n≤(yk e.A).frm)=true:=decide_eq_true h
  simp[this]
theorem zMT{n:Int}{e:PV}(h1:mgB (yk e.A)=true)(h2:(nth e.A 2).I < n)(h3:(nth e.A 1).I < n):mgX n e=false:=by
 have a2:decide (n≤(yk e.A).to)=false:=decide_eq_false (by show ¬n≤(nth e.A 2).I;omega)
 have a3:decide (n≤(yk e.A).frm)=false:=decide_eq_false (by show ¬n≤(nth e.A 1).I;omega)
 simp[mgX,h1,a2,a3]
theorem zL6{b y r d:Bool}{n:Int}{e:PV}(hC:b=(!y&&d))(k:y=(mgX n e || r))(h:(mgB (yk e.A)=false∨n≤(nth e.A 2).I)∨n≤(nth e.A 1).I):b=false:=by
 rw[hC,k,zP1 h];rfl
theorem zL7{y r:Bool}{n:Int}{e:PV}(k:y=(mgX n e || r))(h1:mgB (yk e.A)=true)(h2:(nth e.A 2).I < n)(h3:(nth e.A 1).I < n):y=r:=by
 rw[k,zMT h1 h2 h3];rfl
theorem zMu{b y z r:Bool}{e:PV}(hC:b=(!y&&!z))(k:z=(zAU e.S || r))(h:400 < (e.S.length:Int)):b=false:=by
 have:zAU e.S=true:=decide_eq_true (by omega)
 rw[hC,k,this];simp
theorem zMv{z r:Bool}{e:PV}(k:z=(zAU e.S || r))(h:(e.S.length:Int)≤400):z=r:=by
 have:zAU e.S=false:=decide_eq_false (by omega)
 rw[k,this];rfl
theorem zb3{cnt:Int}{i:Nat}{n s:PV}(h:(nth n.A 0).I=i→¬(nth n.A 1).I=cnt):atB cnt i n s=false:=by
 by_cases q:(nth n.A 0).I=i
 ·exact zVA (.inl (.inl (.inl (.inr (h q)))))
 ·exact zVA (.inl (.inl (.inl (.inl q))))
theorem zbL{n s:PV}(h5:(nth s.A 1).I=(nth s.A 0).S.length)(h:(zEO (nth s.A 0).S (nth s.A 1).I).2.2=0→¬(zEO (nth s.A 0).S (nth s.A 1).I).2.1.2=(nth s.A 1).I):rcB n s=false:=by
 by_cases q:(zEO (nth s.A 0).S (nth s.A 1).I).2.2=0
 ·exact zUX h5 (.inl (.inr (h q)))
 ·exact zUX h5 (.inl (.inl q))
def z7:zJ:=zI
set_option maxHeartbeats 0 in
theorem zFa : zh Tryz.prog 70 z7 := by
  refine zP [0, 1, 2, 3, 4, 5, 6, 7, 8, 9, 10] [.tmp 2] (zA (cs := []) zEg (zA (cs := []) zIJ (zA (cs := []) zGs (zA (cs := []) zHJ (zA (cs := []) zIQ (zA (cs := []) zLB (zA (cs := []) zFp (zD (zB []))))))))) mixed Tryz.func70 rfl (by decide) rfl (by decide) rfl ?_
  intro ps hT hpre W hW
  simp only [z7, TyA, Ty, Tys] at hT hpre
  simp only [zI, TyA, Ty, Tys] at hT
  obtain ⟨_, _, rfl, ⟨_, rfl, _, _, rfl, ⟨ns, rfl, hns, tns⟩, _, _, rfl, ⟨ss, rfl, hss, tss⟩, _, _, rfl, ⟨ws, rfl, hws, tws⟩, _, _, rfl, ⟨ds, rfl, hds, tds⟩, rfl⟩, rfl⟩ := hT
  refine hW.vc [(7, [], tkN [0,1,2,3,4,5,6,7,8,9,10,11,12,13,14,15,16,17,18,19,20,21,22,23] (alS 24 (tkN [25,26,27,28,29,30,31,32] (alS 33 (tkN [34,35,36,37,38,39,40,41,42,43,44,45,46,47,48,49,50,51] .done))))), (10, [], tkN [0,1,2,3,4,5,6,7,8,9,10,11,12,13,14,15,16,17,18,19] (alN [20,21] (tkN [22,23] .done)))] _ _ ?_
  simp [-List.getD_eq_getElem?_getD, z7, yC, yl, yY, yE, zc, yX, zr, zI, zo, zW, zY, zT, zI, zo, zW, zY]
  refine fun _ _ _ _ => ⟨fun h1 => zFd h1, fun h1 h2 h3 h4 => ?_⟩
  have hC := zGU h1 h2 h3 h4
  refine hW.loopS _ _ _ [.sl 4 .dp (.int .i64)] (fun ys => ∃ i : Nat, ys = [.int .i64 i] ∧ i ≤ ns.length ∧ nsB ns.length 0 ns ss = nsB ns.length i (ns.drop i) (ss.drop i)) (fun ys => ns.length - (nth ys 0).I.toNat) ?_ ?_
  · simp [-List.getD_eq_getElem?_getD, z7, yC, yl, yY, yE, zc, yX, zr, zI, zo, zW, zY]
    exact ⟨0, rfl, by simp, by simp⟩
  · rintro ys ⟨i, rfl, h5, h6⟩
    refine hW.vc [(7, [], tkN [0,1,2,3,4,5,6,7,8,9,10,11,12,13,14,15,16,17,18,19,20,21,22,23] (alS 24 (tkN [25,26,27,28,29,30,31,32] (alS 33 (tkN [34,35,36,37,38,39,40,41,42,43,44,45,46,47,48,49,50,51] .done))))), (10, [], tkN [0,1,2,3,4,5,6,7,8,9,10,11,12,13,14,15,16,17,18,19] (alN [20,21] (tkN [22,23] .done)))] _ _ ?_
    simp [-List.getD_eq_getElem?_getD, z7, yC, yl, yY, yE, zc, yX, zr, zI, zo, zW, zY, zF3, zT, zI, zo, zW, zY]
    refine ⟨fun h7 => ?_, fun h7 => ?_⟩
    · have h8 : i < ss.length := by omega
      rw [zH4 h7 h8] at h6
      clear hW
      repeat' (first | apply And.intro | intro _)
      all_goals first
        | omega
        | decide +kernel
        | assumption
        | exact zCt (by rw [h6, zVA (by assumption), Bool.false_and])
        | exact zCt (by rw [h6, zb3 (by assumption), Bool.false_and])
        | exact zCt (by rw [h6, zOT (by assumption) (by assumption) (by assumption) (by assumption) (by assumption), zbL (by assumption) (by assumption), Bool.false_and])
        | (have hq : zDz (nth (nth ss i).A 0).S (nth (nth ss i).A 1).I = true := by assumption
           simp only [zDz, Bool.and_eq_true, leB, decide_eq_true_eq] at hq
           omega)
        | exact zCt (by rw [h6, zOT (by assumption) (by assumption) (by assumption) (by assumption) (by assumption), zUX (by assumption) (by assumption), Bool.false_and])
        | (rw [zOT (by assumption) (by assumption) (by assumption) (by assumption) (by assumption), zbM (by assumption) (by assumption) (by assumption) (by assumption) (by assumption) (by assumption), Bool.true_and] at h6
           rw [zC (by omega)]
           exact ⟨i + 1, by omega, by omega, h6⟩)
        | (rw [zC (by omega)];omega)
        | trace_state
    · rw [List.drop_eq_nil_of_le h7] at h6
      have h6 : nsB ns.length 0 ns ss = true := h6
      rw [h6, Bool.true_and] at hC
      refine hW.loopS _ _ _ [.sl 8 .dp (.int .i64)] (fun ys => ∃ j : Nat, ys = [.int .i64 j] ∧ j ≤ ws.length ∧ ws.any (mgX ns.length) = (ws.drop j).any (mgX ns.length)) (fun ys => ws.length - (nth ys 0).I.toNat) ?_ ?_
      · simp [-List.getD_eq_getElem?_getD, z7, yC, yl, yY, yE, zc, yX, zr, zI, zo, zW, zY]
        exact ⟨0, rfl, by simp, by simp⟩
      · rintro ys ⟨j, rfl, k1, k2⟩
        refine hW.vc [(7, [], tkN [0,1,2,3,4,5,6,7,8,9,10,11,12,13,14,15,16,17,18,19,20,21,22,23] (alS 24 (tkN [25,26,27,28,29,30,31,32] (alS 33 (tkN [34,35,36,37,38,39,40,41,42,43,44,45,46,47,48,49,50,51] .done))))), (10, [], tkN [0,1,2,3,4,5,6,7,8,9,10,11,12,13,14,15,16,17,18,19] (alN [20,21] (tkN [22,23] .done)))] _ _ ?_
        simp [-List.getD_eq_getElem?_getD, z7, yC, yl, yY, yE, zc, yX, zr, zI, zo, zW, zY, zT, zI, zo, zW, zY, zRW]
        refine fun _ => ⟨fun k3 => ?_, fun k3 => ?_⟩
        · clear hW
          rw [zG k3, List.any_cons] at k2
          repeat' (first | apply And.intro | intro _)
          all_goals first
            | omega
            | decide +kernel
            | assumption
            | exact zL6 hC k2 (by assumption)
            | (rw [zC (by omega)]
               exact ⟨j + 1, by omega, by omega, zL7 k2 (by assumption) (by assumption) (by assumption)⟩)
            | (rw [zC (by omega)];omega)
            | trace_state
        · refine hW.loopS _ _ _ [.sl 10 .dp (.int .i64)] (fun ys => ∃ j : Nat, ys = [.int .i64 j] ∧ j ≤ ds.length ∧ (ds.any fun e => zAU e.S) = (ds.drop j).any fun e => zAU e.S) (fun ys => ds.length - (nth ys 0).I.toNat) ?_ ?_
          · simp [-List.getD_eq_getElem?_getD, z7, yC, yl, yY, yE, zc, yX, zr, zI, zo, zW, zY]
            exact ⟨0, rfl, by simp, by simp⟩
          · rintro ys ⟨j', rfl, k4, k5⟩
            refine hW.vc [(7, [], tkN [0,1,2,3,4,5,6,7,8,9,10,11,12,13,14,15,16,17,18,19,20,21,22,23] (alS 24 (tkN [25,26,27,28,29,30,31,32] (alS 33 (tkN [34,35,36,37,38,39,40,41,42,43,44,45,46,47,48,49,50,51] .done))))), (10, [], tkN [0,1,2,3,4,5,6,7,8,9,10,11,12,13,14,15,16,17,18,19] (alN [20,21] (tkN [22,23] .done)))] _ _ ?_
            simp [-List.getD_eq_getElem?_getD, z7, yC, yl, yY, yE, zc, yX, zr, zI, zo, zW, zY, zT, zI, zo, zW, zY]
            clear hW
            rw [List.drop_eq_nil_of_le k3] at k2
            refine fun _ => ⟨fun k6 => ?_, fun k6 => ?_⟩
            · rw [zG k6, List.any_cons] at k5
              repeat' (first | apply And.intro | intro _)
              all_goals first
                | omega
                | decide +kernel
                | assumption
                | exact zMu hC k5 (by assumption)
                | (rw [zC (by omega)]
                   exact ⟨j' + 1, by omega, by omega, zMv k5 (by assumption)⟩)
                | (rw [zC (by omega)];omega)
                | trace_state
            · rw [List.drop_eq_nil_of_le k6] at k5
              rw [hC, k2, k5];rfl
end
section
variable [zS]
def ya:zJ:=zL
set_option maxHeartbeats 2000000 in
theorem zG9:zh Tryz.prog 48 ya:=by
 refine zP [0,1,2,3,4,5,6,7] [.cell 2 29] (zA (cs:=[]) zI2 (zD (zB []))) mixed Tryz.func48 rfl (by decide) rfl (by decide) rfl ?_
 intro ps hT hpre W hW
 simp only[ya,TyA,Ty,Tys] at hT hpre
 simp only[zL,TyA,Ty,Tys] at hT hpre
 obtain⟨_,_,rfl,⟨_,rfl,_,_,rfl,⟨ns,rfl,hns,tns⟩,_,_,rfl,⟨ss,rfl,hss,tss⟩,_,_,rfl,⟨ws,rfl,hws,tws⟩,_,_,rfl,⟨ds,rfl,hds,tds⟩,rfl⟩,rfl⟩:=hT
 simp only[zE,zF,zBE,zAA,zFe] at hpre
 obtain⟨⟨p1,p2⟩,p3,⟨p4,p5⟩,p6⟩:=hpre
 refine hW.vc [] _ _ ?_
 simp[-List.getD_eq_getElem?_getD,ya,zAz,zL,zj,zj]
 refine hW.loopS _ _ _ [.sl 3 .dp (.list (.agg [.int .i64,.int .i64,.int .i64,.int .i64,.int .i64,.bool,.list (.agg [.int .i64,.str]),.int .i64,.int .i64,.int .i64,.list (.int .i64),.list (.int .i64),.list (.int .i64)])),.sl 4 .dp (.int .i64)] (fun ys=>∃i:Nat,ys=[.list (ns.take i),.int .i64 i]∧i≤ns.length) (fun ys=>ns.length - (nth ys 1).I.toNat) ?_ ?_
 ·simp[-List.getD_eq_getElem?_getD,ya,zAz,zL,zj]
  exact⟨0,⟨.inl rfl,rfl⟩,by omega⟩
 ·rintro ys ⟨i,rfl,g1⟩
  have w1:IntKind.i64.wrap ((i:Int)+1)=i+1:=zC (by omega)
  refine hW.vc [] _ _ ?_
  simp[-List.getD_eq_getElem?_getD,ya,zAz,zL,zj,zj,w1]
  refine fun _=>⟨fun h=>⟨h,?_⟩,fun h=>⟨by omega,?_⟩⟩
  ·clear hW
   intros
   have hq:=p2 _ (zb h)
   obtain⟨_,he,_,_,rfl,⟨_,rfl,_⟩,_,_,rfl,⟨_,rfl,_⟩,_,_,rfl,⟨_,rfl,_⟩,_,_,rfl,⟨_,rfl,_⟩,_,_,rfl,⟨_,rfl,_⟩,_,_,rfl,⟨_,rfl⟩,_,_,rfl,⟨_,rfl,_,_⟩,_,_,rfl,⟨_,rfl,_⟩,_,_,rfl,⟨_,rfl,_⟩,_,_,rfl,⟨_,rfl,_⟩,_,_,rfl,⟨_,rfl,_,_⟩,_,_,rfl,⟨_,rfl,_,_⟩,_,_,rfl,⟨_,rfl,_,_⟩,rfl⟩:=tns _ (zb h)
   refine⟨hq,by omega,fun _=>⟨⟨i+1,⟨?_,by omega⟩,by omega⟩,by omega⟩⟩
   rw[zd h,he];rfl
  ·rw[List.take_of_length_le h]
   refine hW.loopS _ _ _ [.sl 5 .dp (.list (.agg [.int .i64,.int .i64,.int .i64,.int .i64,.int .i64,.int .i64,.int .i64,.bool,.list (.agg [.int .i64,.str])])),.sl 6 .dp (.int .i64)] (fun ys=>∃i:Nat,ys=[.list (ws.take i),.int .i64 i]∧i≤ws.length) (fun ys=>ws.length - (nth ys 1).I.toNat) ?_ ?_
   ·simp[-List.getD_eq_getElem?_getD,ya,zAz,zL,zj]
    exact⟨0,⟨.inl rfl,rfl⟩,by omega⟩
   ·rintro ys ⟨i,rfl,g1⟩
    have w1:IntKind.i64.wrap ((i:Int)+1)=i+1:=zC (by omega)
    refine hW.vc [] _ _ ?_
    simp[-List.getD_eq_getElem?_getD,ya,zAz,zL,zj,w1]
    refine fun _=>⟨fun h=>⟨h,?_⟩,fun h=>⟨by omega,List.take_of_length_le h⟩⟩
    clear hW
    intros
    have hq:=p5 _ (zb h)
    obtain⟨_,he,_,_,rfl,⟨_,rfl,_⟩,_,_,rfl,⟨_,rfl,_⟩,_,_,rfl,⟨_,rfl,_⟩,_,_,rfl,⟨_,rfl,_⟩,_,_,rfl,⟨_,rfl,_⟩,_,_,rfl,⟨_,rfl,_⟩,_,_,rfl,⟨_,rfl,_⟩,_,_,rfl,⟨_,rfl⟩,_,_,rfl,⟨_,rfl,_,_⟩,rfl⟩:=tws _ (zb h)
    refine⟨by omega,by omega,fun _=>⟨⟨i+1,⟨?_,by omega⟩,by omega⟩,by omega⟩⟩
    rw[zd h,he];rfl
end
section
variable [zS]
theorem zEq{l:List PV}(h:∀e∈l,Ty (.agg [.int .i64,.str]) e):∀e∈l,isE e:=by
 intro e he
 have:=h e he
 simp only[Ty,Tys] at this
 obtain⟨_,rfl,_,_,rfl,⟨n,rfl,_⟩,_,_,rfl,⟨s,rfl,_⟩,rfl⟩:=this
 exact⟨n,s,rfl⟩
theorem zGV{ns ss ws ds:List PV}(h1:∀e∈ns,Ty (.agg [.int .i64,.int .i64,.int .i64,.int .i64,.int .i64,.bool,.list (.agg [.int .i64,.str]),.int .i64,.int .i64,.int .i64,.list (.int .i64),.list (.int .i64),.list (.int .i64)]) e)(h2:∀e∈ss,Ty (.agg [.str,.int .i64]) e)(h3:∀e∈ws,Ty (.agg [.int .i64,.int .i64,.int .i64,.int .i64,.int .i64,.int .i64,.int .i64,.bool,.list (.agg [.int .i64,.str])]) e)(h4:∀e∈ds,Ty .str e):ClT ⟨ns,ss,ws,ds⟩:=by
 refine⟨fun e he=>?_,fun e he=>?_,fun e he=>?_,fun e he=>?_⟩
 ·have:=h1 e he
  simp only[Ty,Tys] at this
  obtain⟨_,he,_,_,rfl,⟨_,rfl,_⟩,_,_,rfl,⟨_,rfl,_⟩,_,_,rfl,⟨_,rfl,_⟩,_,_,rfl,⟨_,rfl,_⟩,_,_,rfl,⟨_,rfl,_⟩,_,_,rfl,⟨_,rfl⟩,_,_,rfl,⟨l,rfl,_,tl⟩,_,_,rfl,⟨_,rfl,_⟩,_,_,rfl,⟨_,rfl,_⟩,_,_,rfl,⟨_,rfl,_⟩,_,_,rfl,⟨_,rfl,_,_⟩,_,_,rfl,⟨_,rfl,_,_⟩,_,_,rfl,⟨_,rfl,_,_⟩,rfl⟩:=this
  refine⟨z8 e.A,by rw[he];rfl,?_⟩
  have e1:(z8 e.A).log=l:=by rw[he];rfl
  rw[e1]
  exact zEq fun a ha=>by simp only[Ty,Tys];exact tl a ha
 ·have:=h2 e he
  simp only[Ty,Tys] at this
  obtain⟨_,rfl,_,_,rfl,⟨b,rfl,_⟩,_,_,rfl,⟨n,rfl,_⟩,rfl⟩:=this
  exact⟨b,n,rfl⟩
 ·have:=h3 e he
  simp only[Ty,Tys] at this
  obtain⟨_,he,_,_,rfl,⟨_,rfl,_⟩,_,_,rfl,⟨_,rfl,_⟩,_,_,rfl,⟨_,rfl,_⟩,_,_,rfl,⟨_,rfl,_⟩,_,_,rfl,⟨_,rfl,_⟩,_,_,rfl,⟨_,rfl,_⟩,_,_,rfl,⟨_,rfl,_⟩,_,_,rfl,⟨_,rfl⟩,_,_,rfl,⟨l,rfl,_,tl⟩,rfl⟩:=this
  refine⟨yk e.A,by rw[he];rfl,?_⟩
  have e1:(yk e.A).es=l:=by rw[he];rfl
  rw[e1]
  exact zEq fun a ha=>by simp only[Ty,Tys];exact tl a ha
 ·have:=h4 e he
  simp only[Ty] at this
  obtain⟨b,rfl,_⟩:=this
  exact⟨b,rfl⟩
def csR(c:CL)(a:CA):CL × Int:=cond (zCw c.ns c.ss c.ws c.ds) (zAS c a) (clO,1)
def zCX:zJ:=⟨[(.rd,.agg [.list (.agg [.int .i64,.int .i64,.int .i64,.int .i64,.int .i64,.bool,.list (.agg [.int .i64,.str]),.int .i64,.int .i64,.int .i64,.list (.int .i64),.list (.int .i64),.list (.int .i64)]),.list (.agg [.str,.int .i64]),.list (.agg [.int .i64,.int .i64,.int .i64,.int .i64,.int .i64,.int .i64,.int .i64,.bool,.list (.agg [.int .i64,.str])]),.list .str]),(.rd,.agg [.int .i64,.int .i64,.int .i64,.int .i64,.str])],[.agg [.list (.agg [.int .i64,.int .i64,.int .i64,.int .i64,.int .i64,.bool,.list (.agg [.int .i64,.str]),.int .i64,.int .i64,.int .i64,.list (.int .i64),.list (.int .i64),.list (.int .i64)]),.list (.agg [.str,.int .i64]),.list (.agg [.int .i64,.int .i64,.int .i64,.int .i64,.int .i64,.int .i64,.int .i64,.bool,.list (.agg [.int .i64,.str])]),.list .str],.int .i64],true,fun ps=>zFe (nth ps 0).A,fun ps=>[(csR (zFs (nth ps 0).A) (zDb (nth ps 1).A)).1.pv,.int .i64 (csR (zFs (nth ps 0).A) (zDb (nth ps 1).A)).2],fun _=>[]⟩
set_option maxHeartbeats 2000000 in
theorem zQ3:zh Tryz.prog 28 zCX:=by
 refine zP [0,1,2,3,4,5,6,7] [.cell 4 29,.tmp 5] (zA (cs:=[]) zQG (zA (cs:=[]) zFM (zA (cs:=[]) zBi (zD (zB []))))) mixed Tryz.func28 rfl (by decide) rfl (by decide) rfl ?_
 intro ps hT hpre W hW
 simp only[zCX,TyA,Ty,Tys] at hT hpre
 obtain⟨_,_,rfl,⟨_,rfl,_,_,rfl,⟨ns,rfl,hns,tns⟩,_,_,rfl,⟨ss,rfl,hss,tss⟩,_,_,rfl,⟨ws,rfl,hws,tws⟩,_,_,rfl,⟨ds,rfl,hds,tds⟩,rfl⟩,_,_,rfl,⟨_,rfl,_,_,rfl,⟨ak,rfl,hak⟩,_,_,rfl,⟨an,rfl,han⟩,_,_,rfl,⟨aw,rfl,haw⟩,_,_,rfl,⟨ap,rfl,hap⟩,_,_,rfl,⟨ad,rfl,had⟩,rfl⟩,rfl⟩:=hT
 have hT:=zGV tns tss tws tds
 simp only[zE,zF,zBE] at hpre
 refine hW.vc [] _ _ ?_
 simp[-List.getD_eq_getElem?_getD,zCX,zI,zL,zFC,CL.pv,zBd]
 have csN:zCw ns ss ws ds=false→csR ⟨ns,ss,ws,ds⟩ (zDb [.int .i64 ak,.int .i64 an,.int .i64 aw,.int .i64 ap,.str ad])=(clO,1):=fun h=>by rw[csR,h];rfl
 have csY:zCw ns ss ws ds=true→csR ⟨ns,ss,ws,ds⟩ (zDb [.int .i64 ak,.int .i64 an,.int .i64 aw,.int .i64 ap,.str ad])=zAS ⟨ns,ss,ws,ds⟩ (zDb [.int .i64 ak,.int .i64 an,.int .i64 aw,.int .i64 ap,.str ad]):=fun h=>by rw[csR,h];rfl
 refine⟨fun h=>?_,fun h=>?_⟩
 ·rw[csN h];exact⟨⟨rfl,rfl,rfl,rfl⟩,rfl⟩
 ·have hI:ClI ⟨ns,ss,ws,ds⟩:=zKY hT h
  rw[csY h];exact⟨hpre,hI,⟨rfl,rfl,rfl,rfl⟩,rfl⟩
def zHC:zJ:=zCX
set_option maxHeartbeats 2000000 in
theorem zQ2:zh Tryz.prog 25 zHC:=by
 refine zP [0,1,2,3,4,5,6,7] [.cell 4 29,.tmp 5] (zA (cs:=[]) zG9 (zA (cs:=[]) zFK (zA (cs:=[]) zFa (zD (zB []))))) mixed Tryz.func25 rfl (by decide) rfl (by decide) rfl ?_
 intro ps hT hpre W hW
 simp only[zHC,TyA,Ty,Tys] at hT hpre
 simp only[zCX,TyA,Ty,Tys] at hT hpre
 obtain⟨_,_,rfl,⟨_,rfl,_,_,rfl,⟨ns,rfl,hns,tns⟩,_,_,rfl,⟨ss,rfl,hss,tss⟩,_,_,rfl,⟨ws,rfl,hws,tws⟩,_,_,rfl,⟨ds,rfl,hds,tds⟩,rfl⟩,_,_,rfl,⟨_,rfl,_,_,rfl,⟨ak,rfl,hak⟩,_,_,rfl,⟨an,rfl,han⟩,_,_,rfl,⟨aw,rfl,haw⟩,_,_,rfl,⟨ap,rfl,hap⟩,_,_,rfl,⟨ad,rfl,had⟩,rfl⟩,rfl⟩:=hT
 have hT:=zGV tns tss tws tds
 simp only[zE,zF,zBE] at hpre
 refine hW.vc [] _ _ ?_
 simp[-List.getD_eq_getElem?_getD,zHC,z7,zw,ya,zCX,zI,zL,zCX,zI,zL,CL.pv,zBd]
 have csN:zCw ns ss ws ds=false→csR ⟨ns,ss,ws,ds⟩ (zDb [.int .i64 ak,.int .i64 an,.int .i64 aw,.int .i64 ap,.str ad])=(clO,1):=fun h=>by rw[csR,h];rfl
 have csY:zCw ns ss ws ds=true→csR ⟨ns,ss,ws,ds⟩ (zDb [.int .i64 ak,.int .i64 an,.int .i64 aw,.int .i64 ap,.str ad])=zAS ⟨ns,ss,ws,ds⟩ (zDb [.int .i64 ak,.int .i64 an,.int .i64 aw,.int .i64 ap,.str ad]):=fun h=>by rw[csR,h];rfl
 refine⟨fun h=>?_,fun h=>?_⟩
 ·rw[csN h];exact⟨⟨rfl,rfl,rfl,rfl⟩,rfl⟩
 ·have hI:ClI ⟨ns,ss,ws,ds⟩:=zKY hT h
  rw[csY h];exact⟨hI,(zXG hI _).clu,⟨rfl,rfl,rfl,rfl⟩,rfl⟩
end
section
variable [zS]
theorem zHF:∀(es:List PV) (k k':Int),zAM k' (yw k es)=zAM k' es
 | [],_,_=>rfl
 | e :: es,k,k'=>by
  simp only[yw,zAM,zK6]
  exact zHF es _ _
theorem zTt(ns ss ws ds:List PV):cN4 1 [.list (yT ndN mkN 1 ns),.list (yT stN zGj (cN1 1 [.list ns,.list ss,.list ws,.list ds]) ss),.list (yw (cN2 1 [.list ns,.list ss,.list ws,.list ds]) ws),.list (zCa (cN3 1 [.list ns,.list ss,.list ws,.list ds]) ds.length)]=cN4 1 [.list ns,.list ss,.list ws,.list ds]:=by
 simp only[cN4,cN3,cN2,cN1,zE,zF,zAA,zDe zOe,zDe (m:=zGj) (d:=stN) (fun _ _=>rfl),zHF,zDQ]
theorem zNh(ns ss ws ds:List PV):zGG 1 (yT ndN mkN 1 ns) (yT stN zGj (cN1 1 [.list ns,.list ss,.list ws,.list ds]) ss) (yw (cN2 1 [.list ns,.list ss,.list ws,.list ds]) ws) (zCa (cN3 1 [.list ns,.list ss,.list ws,.list ds]) ds.length)=cN4 1 [.list ns,.list ss,.list ws,.list ds]:=
 zJv (k:=1) (ns:=ns) (ss:=ss) (ws:=ws) (ds:=ds) (by decide)
def zIh:zJ:=⟨[(.rd,.agg [.list (.agg [.int .i64,.int .i64,.int .i64,.int .i64,.int .i64,.bool,.list (.agg [.int .i64,.str]),.int .i64,.int .i64,.int .i64,.list (.int .i64),.list (.int .i64),.list (.int .i64)]),.list (.agg [.str,.int .i64]),.list (.agg [.int .i64,.int .i64,.int .i64,.int .i64,.int .i64,.int .i64,.int .i64,.bool,.list (.agg [.int .i64,.str])]),.list .str]),(.rd,.agg [.int .i64,.int .i64,.int .i64,.int .i64,.str])],[.bool],true,fun _=>True,fun _=>[.bool true],fun _=>[]⟩
set_option maxHeartbeats 2000000 in
theorem zYD:zh Tryz.prog 4 zIh:=by
 refine zP [0,1,2,3,4,5,6,7,8,9,10,11,12,13,14,15] [.tmp 4] (zA (cs:=[]) zGA (zA (cs:=[]) zF7 (zA (cs:=[]) zIO (zA (cs:=[]) zQ3 (zA (cs:=[]) zQ2 (zA (cs:=[]) zJM (zA (cs:=[]) zMZ (zA (cs:=[]) zJN (zA (cs:=[]) zMc (zD (zB []))))))))))) mixed Tryz.func4 rfl (by decide) rfl (by decide) rfl ?_
 intro ps hT hpre W hW
 simp only[zIh,TyA,Ty,Tys] at hT hpre
 obtain⟨_,_,rfl,⟨_,rfl,_,_,rfl,⟨ns,rfl,hns,tns⟩,_,_,rfl,⟨ss,rfl,hss,tss⟩,_,_,rfl,⟨ws,rfl,hws,tws⟩,_,_,rfl,⟨ds,rfl,hds,tds⟩,rfl⟩,_,_,rfl,⟨_,rfl,_,_,rfl,⟨ak,rfl,hak⟩,_,_,rfl,⟨an,rfl,han⟩,_,_,rfl,⟨aw,rfl,haw⟩,_,_,rfl,⟨ap,rfl,hap⟩,_,_,rfl,⟨ad,rfl,had⟩,rfl⟩,rfl⟩:=hT
 have hT:=zGV tns tss tws tds
 have hSm:∀a,Sm (csR ⟨ns,ss,ws,ds⟩ a).1:=fun a=>by
  unfold csR
  cases hc:zCw ns ss ws ds with
  | false=>exact zOd
  | true=>exact zXG (zKY hT hc) a
 have hz:=zRs (v:=[.list ns,.list ss,.list ws,.list ds]) (l:=1048576) (by omega)
 have hz2:=zPa (v:=[.list ns,.list ss,.list ws,.list ds]) (l:=1048576)
 have hz3:=zQl 1 [.list ns,.list ss,.list ws,.list ds]
 obtain⟨R,hR⟩:∃R,R=csR ⟨ns,ss,ws,ds⟩ (zDb [.int .i64 ak,.int .i64 an,.int .i64 aw,.int .i64 ap,.str ad]):=⟨_,rfl⟩
 have hs:=hSm (zDb [.int .i64 ak,.int .i64 an,.int .i64 aw,.int .i64 ap,.str ad])
 rw[←hR] at hs
 obtain⟨c1,c2⟩:=hs.cN
 have z1:=zTt R.1.ns R.1.ss R.1.ws R.1.ds
 have z2:=zNh R.1.ns R.1.ss R.1.ws R.1.ds
 refine hW.vc [(8,[9],tkN [0,2] (.alt 1 (.alt 3 (.alt 4 (tkN [5,6] (.alt 7 (alN [8,9,10] .done) (alS 8 (.alt 7 (alN [9,10] .done) (alS 9 (tkN [7] (alS 10 .done))))))) (alN [8,4] (tkN [5,6] (.alt 7 (alN [9,10] .done) (alS 9 (tkN [7] (alS 10 .done))))))) (alN [8,3,4] (tkN [5,6] (.alt 7 (alN [9,10] .done) (alS 9 (tkN [7] (alS 10 .done))))))) (alN [8,1,3,4] (tkN [5,6] (.alt 7 (alN [9,10] .done) (alS 9 (tkN [7] (alS 10 .done)))))))),(10,[8],tkN [0,1] (.alt 2 (.alt 3 (tkN [4,5] (.alt 6 (alN [7,8,9] .done) (alS 7 (.alt 6 (alN [8,9] .done) (alS 8 (tkN [6] (alS 9 .done))))))) (alN [7,3] (tkN [4,5] (.alt 6 (alN [8,9] .done) (alS 8 (tkN [6] (alS 9 .done))))))) (alN [7,2,3] (tkN [4,5] (.alt 6 (alN [8,9] .done) (alS 8 (tkN [6] (alS 9 .done)))))))),(13,[],tkN [0,1] (alN [2,3] (tkN [4] .done))),(27,[9],tkN [0,2] (.alt 1 (.alt 3 (.alt 4 (tkN [5,6] (.alt 7 (alN [8,9,10] .done) (alS 8 (.alt 7 (alN [9,10] .done) (alS 9 (tkN [7] (alS 10 .done))))))) (alN [8,4] (tkN [5,6] (.alt 7 (alN [9,10] .done) (alS 9 (tkN [7] (alS 10 .done))))))) (alN [8,3,4] (tkN [5,6] (.alt 7 (alN [9,10] .done) (alS 9 (tkN [7] (alS 10 .done))))))) (alN [8,1,3,4] (tkN [5,6] (.alt 7 (alN [9,10] .done) (alS 9 (tkN [7] (alS 10 .done))))))))] _ _ ?_
 simp (config:={ maxSteps:=2000000 }) [-List.getD_eq_getElem?_getD,zIh,zEE,zBb,zED,zBa,zHC,zCX,yA,zBB,zBC,CL.pv,zBd,zCX,zE1,←hR,z1,z2]
 clear hW
 intro h0
 refine⟨h0,fun h1=>?_⟩
 have g1:=hz.2.2 h0 (by omega)
 have g2:=hz2 h0
 exact⟨by decide +kernel,g1,by decide +kernel,g1,by decide +kernel,g1,by omega,by omega,fun _=>⟨by omega,c1,fun _=>⟨by decide +kernel,g1,by omega,c1⟩⟩⟩
end
section
variable [zS]
theorem lt3:3 < Tryz.prog.types.size:=of_decide_eq_true (by kernel_rfl)
theorem D3:Dat Tryz.prog 3 false [.int .i64]:=.int Tryz.underlying3 lt3
theorem lt4:4 < Tryz.prog.types.size:=of_decide_eq_true (by kernel_rfl)
theorem D4:Dat Tryz.prog 4 false [.bool]:=.bool Tryz.underlying4 lt4
theorem lt9:9 < Tryz.prog.types.size:=of_decide_eq_true (by kernel_rfl)
theorem D9:Dat Tryz.prog 9 false [.str]:=.str Tryz.underlying9 lt9
theorem lt48:48 < Tryz.prog.types.size:=of_decide_eq_true (by kernel_rfl)
theorem D48:Dat Tryz.prog 48 true [.int .i64,.int .i64,.int .i64,.int .i64,.str]:=.struct Tryz.underlying48 (.cons (l:=[.int .i64]) (m:=[.int .i64,.int .i64,.int .i64,.str]) D3 (by kernel_rfl) (.cons (l:=[.int .i64]) (m:=[.int .i64,.int .i64,.str]) D3 (by kernel_rfl) (.cons (l:=[.int .i64]) (m:=[.int .i64,.str]) D3 (by kernel_rfl) (.cons (l:=[.int .i64]) (m:=[.str]) D3 (by kernel_rfl) (.cons (l:=[.str]) (m:=[]) D9 (by kernel_rfl) .nil))))) (by kernel_rfl) lt48
theorem lt30:30 < Tryz.prog.types.size:=of_decide_eq_true (by kernel_rfl)
theorem D30:Dat Tryz.prog 30 false [.list (.int .i64)]:=.slice (e:=3) (g:=false) (l:=[.int .i64]) Tryz.underlying30 D3 (by kernel_rfl) (by decide) (of_decide_eq_true (by kernel_rfl)) lt30
theorem lt27:27 < Tryz.prog.types.size:=of_decide_eq_true (by kernel_rfl)
theorem D27:Dat Tryz.prog 27 false [.list (.str)]:=.slice (e:=9) (g:=false) (l:=[.str]) Tryz.underlying27 D9 (by kernel_rfl) (by decide) (of_decide_eq_true (by kernel_rfl)) lt27
theorem zbb:211 < Tryz.prog.types.size:=of_decide_eq_true (by kernel_rfl)
theorem D211:Dat Tryz.prog 211 true [.int .i64,.str]:=.struct Tryz.underlying211 (.cons (l:=[.int .i64]) (m:=[.str]) D3 (by kernel_rfl) (.cons (l:=[.str]) (m:=[]) D9 (by kernel_rfl) .nil)) (by kernel_rfl) zbb
theorem zbf:127 < Tryz.prog.types.size:=of_decide_eq_true (by kernel_rfl)
theorem zgh:Dat Tryz.prog 127 false [.list (.agg [.int .i64,.str])]:=.slice (e:=211) (g:=true) (l:=[.int .i64,.str]) Tryz.underlying127 D211 (by kernel_rfl) (by decide) (of_decide_eq_true (by kernel_rfl)) zbf
theorem zbe:129 < Tryz.prog.types.size:=of_decide_eq_true (by kernel_rfl)
theorem D129:Dat Tryz.prog 129 true [.int .i64,.int .i64,.int .i64,.int .i64,.int .i64,.bool,.list (.agg [.int .i64,.str]),.int .i64,.int .i64,.int .i64,.list (.int .i64),.list (.int .i64),.list (.int .i64)]:=.struct Tryz.underlying129 (.cons (l:=[.int .i64]) (m:=[.int .i64,.int .i64,.int .i64,.int .i64,.bool,.list (.agg [.int .i64,.str]),.int .i64,.int .i64,.int .i64,.list (.int .i64),.list (.int .i64),.list (.int .i64)]) D3 (by kernel_rfl) (.cons (l:=[.int .i64]) (m:=[.int .i64,.int .i64,.int .i64,.bool,.list (.agg [.int .i64,.str]),.int .i64,.int .i64,.int .i64,.list (.int .i64),.list (.int .i64),.list (.int .i64)]) D3 (by kernel_rfl) (.cons (l:=[.int .i64]) (m:=[.int .i64,.int .i64,.bool,.list (.agg [.int .i64,.str]),.int .i64,.int .i64,.int .i64,.list (.int .i64),.list (.int .i64),.list (.int .i64)]) D3 (by kernel_rfl) (.cons (l:=[.int .i64]) (m:=[.int .i64,.bool,.list (.agg [.int .i64,.str]),.int .i64,.int .i64,.int .i64,.list (.int .i64),.list (.int .i64),.list (.int .i64)]) D3 (by kernel_rfl) (.cons (l:=[.int .i64]) (m:=[.bool,.list (.agg [.int .i64,.str]),.int .i64,.int .i64,.int .i64,.list (.int .i64),.list (.int .i64),.list (.int .i64)]) D3 (by kernel_rfl) (.cons (l:=[.bool]) (m:=[.list (.agg [.int .i64,.str]),.int .i64,.int .i64,.int .i64,.list (.int .i64),.list (.int .i64),.list (.int .i64)]) D4 (by kernel_rfl) (.cons (l:=[.list (.agg [.int .i64,.str])]) (m:=[.int .i64,.int .i64,.int .i64,.list (.int .i64),.list (.int .i64),.list (.int .i64)]) zgh (by kernel_rfl) (.cons (l:=[.int .i64]) (m:=[.int .i64,.int .i64,.list (.int .i64),.list (.int .i64),.list (.int .i64)]) D3 (by kernel_rfl) (.cons (l:=[.int .i64]) (m:=[.int .i64,.list (.int .i64),.list (.int .i64),.list (.int .i64)]) D3 (by kernel_rfl) (.cons (l:=[.int .i64]) (m:=[.list (.int .i64),.list (.int .i64),.list (.int .i64)]) D3 (by kernel_rfl) (.cons (l:=[.list (.int .i64)]) (m:=[.list (.int .i64),.list (.int .i64)]) D30 (by kernel_rfl) (.cons (l:=[.list (.int .i64)]) (m:=[.list (.int .i64)]) D30 (by kernel_rfl) (.cons (l:=[.list (.int .i64)]) (m:=[]) D30 (by kernel_rfl) .nil))))))))))))) (by kernel_rfl) zbe
theorem lt42:42 < Tryz.prog.types.size:=of_decide_eq_true (by kernel_rfl)
theorem D42:Dat Tryz.prog 42 false [.list (.agg [.int .i64,.int .i64,.int .i64,.int .i64,.int .i64,.bool,.list (.agg [.int .i64,.str]),.int .i64,.int .i64,.int .i64,.list (.int .i64),.list (.int .i64),.list (.int .i64)])]:=.slice (e:=129) (g:=true) (l:=[.int .i64,.int .i64,.int .i64,.int .i64,.int .i64,.bool,.list (.agg [.int .i64,.str]),.int .i64,.int .i64,.int .i64,.list (.int .i64),.list (.int .i64),.list (.int .i64)]) Tryz.underlying42 D129 (by kernel_rfl) (by decide) (of_decide_eq_true (by kernel_rfl)) lt42
theorem zbd:131 < Tryz.prog.types.size:=of_decide_eq_true (by kernel_rfl)
theorem D131:Dat Tryz.prog 131 true [.str,.int .i64]:=.struct Tryz.underlying131 (.cons (l:=[.str]) (m:=[.int .i64]) D9 (by kernel_rfl) (.cons (l:=[.int .i64]) (m:=[]) D3 (by kernel_rfl) .nil)) (by kernel_rfl) zbd
theorem lt43:43 < Tryz.prog.types.size:=of_decide_eq_true (by kernel_rfl)
theorem D43:Dat Tryz.prog 43 false [.list (.agg [.str,.int .i64])]:=.slice (e:=131) (g:=true) (l:=[.str,.int .i64]) Tryz.underlying43 D131 (by kernel_rfl) (by decide) (of_decide_eq_true (by kernel_rfl)) lt43
theorem zbc:134 < Tryz.prog.types.size:=of_decide_eq_true (by kernel_rfl)
theorem D134:Dat Tryz.prog 134 true [.int .i64,.int .i64,.int .i64,.int .i64,.int .i64,.int .i64,.int .i64,.bool,.list (.agg [.int .i64,.str])]:=.struct Tryz.underlying134 (.cons (l:=[.int .i64]) (m:=[.int .i64,.int .i64,.int .i64,.int .i64,.int .i64,.int .i64,.bool,.list (.agg [.int .i64,.str])]) D3 (by kernel_rfl) (.cons (l:=[.int .i64]) (m:=[.int .i64,.int .i64,.int .i64,.int .i64,.int .i64,.bool,.list (.agg [.int .i64,.str])]) D3 (by kernel_rfl) (.cons (l:=[.int .i64]) (m:=[.int .i64,.int .i64,.int .i64,.int .i64,.bool,.list (.agg [.int .i64,.str])]) D3 (by kernel_rfl) (.cons (l:=[.int .i64]) (m:=[.int .i64,.int .i64,.int .i64,.bool,.list (.agg [.int .i64,.str])]) D3 (by kernel_rfl) (.cons (l:=[.int .i64]) (m:=[.int .i64,.int .i64,.bool,.list (.agg [.int .i64,.str])]) D3 (by kernel_rfl) (.cons (l:=[.int .i64]) (m:=[.int .i64,.bool,.list (.agg [.int .i64,.str])]) D3 (by kernel_rfl) (.cons (l:=[.int .i64]) (m:=[.bool,.list (.agg [.int .i64,.str])]) D3 (by kernel_rfl) (.cons (l:=[.bool]) (m:=[.list (.agg [.int .i64,.str])]) D4 (by kernel_rfl) (.cons (l:=[.list (.agg [.int .i64,.str])]) (m:=[]) zgh (by kernel_rfl) .nil))))))))) (by kernel_rfl) zbc
theorem lt44:44 < Tryz.prog.types.size:=of_decide_eq_true (by kernel_rfl)
theorem D44:Dat Tryz.prog 44 false [.list (.agg [.int .i64,.int .i64,.int .i64,.int .i64,.int .i64,.int .i64,.int .i64,.bool,.list (.agg [.int .i64,.str])])]:=.slice (e:=134) (g:=true) (l:=[.int .i64,.int .i64,.int .i64,.int .i64,.int .i64,.int .i64,.int .i64,.bool,.list (.agg [.int .i64,.str])]) Tryz.underlying44 D134 (by kernel_rfl) (by decide) (of_decide_eq_true (by kernel_rfl)) lt44
theorem lt46:46 < Tryz.prog.types.size:=of_decide_eq_true (by kernel_rfl)
theorem D46:Dat Tryz.prog 46 true [.list (.agg [.int .i64,.int .i64,.int .i64,.int .i64,.int .i64,.bool,.list (.agg [.int .i64,.str]),.int .i64,.int .i64,.int .i64,.list (.int .i64),.list (.int .i64),.list (.int .i64)]),.list (.agg [.str,.int .i64]),.list (.agg [.int .i64,.int .i64,.int .i64,.int .i64,.int .i64,.int .i64,.int .i64,.bool,.list (.agg [.int .i64,.str])]),.list (.str)]:=.struct Tryz.underlying46 (.cons (l:=[.list (.agg [.int .i64,.int .i64,.int .i64,.int .i64,.int .i64,.bool,.list (.agg [.int .i64,.str]),.int .i64,.int .i64,.int .i64,.list (.int .i64),.list (.int .i64),.list (.int .i64)])]) (m:=[.list (.agg [.str,.int .i64]),.list (.agg [.int .i64,.int .i64,.int .i64,.int .i64,.int .i64,.int .i64,.int .i64,.bool,.list (.agg [.int .i64,.str])]),.list (.str)]) D42 (by kernel_rfl) (.cons (l:=[.list (.agg [.str,.int .i64])]) (m:=[.list (.agg [.int .i64,.int .i64,.int .i64,.int .i64,.int .i64,.int .i64,.int .i64,.bool,.list (.agg [.int .i64,.str])]),.list (.str)]) D43 (by kernel_rfl) (.cons (l:=[.list (.agg [.int .i64,.int .i64,.int .i64,.int .i64,.int .i64,.int .i64,.int .i64,.bool,.list (.agg [.int .i64,.str])])]) (m:=[.list (.str)]) D44 (by kernel_rfl) (.cons (l:=[.list (.str)]) (m:=[]) D27 (by kernel_rfl) .nil)))) (by kernel_rfl) lt46
end
end Go.Proofs.YthogljppoiekaaaGreat
