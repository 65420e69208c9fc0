/-
  What FnSafety alone needs: contracts of functions and plain laws.
  Conditions: none.
-/
import Derived.Test.YthogljppoiekaaaGreatW45
import Derived.Test.YthogljppoiekaaaGreatW46
import Derived.Test.YthogljppoiekaaaGreatW48
set_option linter.unusedVariables false
set_option linter.unusedSimpArgs false
set_option linter.unusedSectionVars false
set_option maxRecDepth 100000
namespace Go.Proofs.YthogljppoiekaaaGreat
section
variable [zS]
def eqB(x y:PV):Bool:=x.I == y.I
theorem zGQ(es:List PV):eqL eqB es es=true:=y9 fun _=>by simp[eqB]
end
section
variable [zS]
def zm:zJ:=⟨[(.rd,.list (.agg [.int .i64,.str])),(.rd,.list (.agg [.int .i64,.str]))],[.bool],true,fun _=>True,fun ps=>[.bool (eqL ze (nth ps 0).L (nth ps 1).L)],fun _=>[]⟩
def zAR:zJ:=⟨[(.rd,.list (.int .i64)),(.rd,.list (.int .i64))],[.bool],true,fun _=>True,fun ps=>[.bool (eqL eqB (nth ps 0).L (nth ps 1).L)],fun _=>[]⟩
end
section
variable [zS]
def zNc(a b:List PV):Bool:=(nth a 0).I == (nth b 0).I&&(nth a 1).I == (nth b 1).I&&(nth a 2).I == (nth b 2).I&&(nth a 3).I == (nth b 3).I&&(nth a 4).I == (nth b 4).I&&(nth a 5).B == (nth b 5).B&&eqL ze (nth a 6).L (nth b 6).L &&
 (nth a 7).I == (nth b 7).I&&(nth a 8).I == (nth b 8).I&&(nth a 9).I == (nth b 9).I&&eqL eqB (nth a 10).L (nth b 10).L&&eqL eqB (nth a 11).L (nth b 11).L&&eqL eqB (nth a 12).L (nth b 12).L
def zAH:zJ:=⟨[(.rd,.agg [.int .i64,.int .i64,.int .i64,.int .i64,.int .i64,.bool,.list (.agg [.int .i64,.str]),.int .i64,.int .i64,.int .i64,.list (.int .i64),.list (.int .i64),.list (.int .i64)]),(.rd,.agg [.int .i64,.int .i64,.int .i64,.int .i64,.int .i64,.bool,.list (.agg [.int .i64,.str]),.int .i64,.int .i64,.int .i64,.list (.int .i64),.list (.int .i64),.list (.int .i64)])],[.bool],true,fun _=>True,fun ps=>[.bool (zNc (nth ps 0).A (nth ps 1).A)],fun _=>[]⟩
theorem zGN(v:List PV):zNc v v=true:=by simp[zNc,y9 (f:=ze) zBj,zGQ]
def zL3(a b:List PV):Bool:=(nth a 0).I == (nth b 0).I&&(nth a 1).I == (nth b 1).I&&(nth a 2).I == (nth b 2).I&&(nth a 3).I == (nth b 3).I&&(nth a 4).I == (nth b 4).I&&(nth a 5).I == (nth b 5).I&&(nth a 6).I == (nth b 6).I&&(nth a 7).B == (nth b 7).B&&eqL ze (nth a 8).L (nth b 8).L
theorem zGP(v:List PV):zL3 v v=true:=by simp[zL3,y9 (f:=ze) zBj]
def zDZ(a b:PV):Bool:=zL3 a.A b.A
theorem zGO(es:List PV):eqL zDZ es es=true:=y9 fun _=>zGP _
def zp:zJ:=⟨[(.rd,.list (.agg [.int .i64,.int .i64,.int .i64,.int .i64,.int .i64,.int .i64,.int .i64,.bool,.list (.agg [.int .i64,.str])])),(.rd,.list (.agg [.int .i64,.int .i64,.int .i64,.int .i64,.int .i64,.int .i64,.int .i64,.bool,.list (.agg [.int .i64,.str])]))],[.bool],true,fun _=>True,fun ps=>[.bool (eqL zDZ (nth ps 0).L (nth ps 1).L)],fun _=>[]⟩
end
section
variable [zS]
theorem zLJ{n x:Int}(h0:0≤x)(h1:x≤n - 1):∀{es:List PV} {p:Int},p < x→voB n p es=true→zQr x es=false→voB n p (es.take (zIq x es)++[.int .i64 x]++es.drop (zIq x es))=true
 | [],p,hp,_,_=>zJ7.2 ⟨⟨h0,h1⟩,hp,rfl⟩
 | e :: es,p,hp,hv,hh=>by
  obtain⟨v1,v2,v3⟩:=zEx.1 hv
  by_cases hl:e.I < x
  ·have hh':zQr x es=false:=by
    simp only[zQr,zIq,if_pos hl,zF,List.length_cons,Nat.add_lt_add_iff_right] at hh
    exact hh
   have ih:=zLJ h0 h1 hl v3 hh'
   simp only[zIq,if_pos hl,List.take_succ_cons,List.drop_succ_cons,List.cons_append]
   exact zEx.2 ⟨v1,v2,ih⟩
  ·have hne:e.I≠x:=by
    intro he
    simp[zQr,zIq,if_neg hl,he] at hh
   simp only[zIq,if_neg hl,List.take_zero,List.drop_zero,List.nil_append,List.cons_append]
   exact zJ7.2 ⟨⟨h0,h1⟩,hp,zEx.2 ⟨v1,by omega,v3⟩⟩
theorem zMl{n x:Int}{es:List PV}(h0:0≤x)(h1:x≤n - 1)(h:voB n (-1) es=true):voB n (-1) (zFN x es)=true:=by
 unfold zFN
 split
 ·exact h
 ·rename_i hh
  exact zLJ h0 h1 (by omega) h (by simpa using hh)
end
section
variable [zS]
theorem zKH{b:List UInt8}(sure:Int):(zEO b sure).2.2=(yP b).2.2:=by
 unfold yP zEO
 split
 ·rfl
 ·split<;>rfl
theorem zGF:zGk [] ST.one:=⟨by simp[zBw,zCB],by simp[zBw,zCB,zBK]⟩
end
section
variable [zS]
theorem zK5(n:ND):z8 (n.pv).A=n:=rfl
theorem zJ8{n:ND}(h:NdF n):0≤zCI n.log n.log.length∧zCI n.log n.log.length≤n.term:=by
 have t0:=h.t0
 unfold zCI
 split
 ·omega
 ·have:=zI5 h.en (n.log.length - 1) (by omega)
  have e:((n.log.length:Int) - 1).toNat=n.log.length - 1:=by omega
  rw[e];omega
theorem zDL{n:ND}(h:NdF n)(ht:1≤n.term):∀k:Nat,(k:Int)≤n.nodes→∀e∈zAl n k,mgV n.nodes e
 | 0,_,e,hm=>by simp[zAl] at hm
 | k+1,hk,e,hm=>by
  rw[zAl] at hm
  rcases List.mem_append.1 hm with hm | hm
  ·exact zDL h ht k (by omega) e hm
  ·split at hm
   ·simp at hm
   ·rename_i hne
    rw[List.mem_singleton.1 hm]
    have i0:=h.i0;have i1:=h.i1;have n5:=h.n5;have t1:=h.t1;have l6:=h.l6
    have:=zJ8 h
    exact zOg (m:=⟨1,n.id,k,n.term,n.log.length,zCI n.log n.log.length,0,false,[]⟩) (by simp only;omega) (by simp only;omega) (by simp only;omega) n5 (by simp only;omega) (by simp only;omega) (by simp only;omega) (by simp only;omega) this (by rw[if_neg (by simp)]) (by simp)
theorem zM4{n:ND}{d:Int}(h:NdF n)(hd:0≤d)(hu:n.up=true)(hr:n.role≠0→1≤n.term)(he:∀e∈n.log,isE e):(∀e∈(zBD n d).1.log,isE e)∧∀e∈(zBD n d).2,mgV n.nodes e:=by
 have t0:=h.t0;have t1:=h.t1;have n1:=h.n1
 unfold zBD
 split
 ·rename_i h2
  split
  ·exact⟨he,by simp⟩
  ·exact⟨he,zDO (n:={ n with ela:=0 }) h.ela0 (hr (by omega)) he _ (by show(n.nodes.toNat:Int)≤n.nodes;omega)⟩
 ·split
  ·exact⟨he,by simp⟩
  ·rename_i h1 h2
   have h3:n.term≠1000:=fun e=>h2 (.inr e)
   have hS:=zJH (d:=d) h (by omega) hd hu
   unfold zEH
   split
   ·have hL:=zLz hS (by show 1≤n.term+1;omega) hu
    have hE:=zP6 (n:=zBf n d) he
    exact⟨hE,zDO hL (by show 1≤n.term+1;omega) hE _ (by show(n.nodes.toNat:Int)≤n.nodes;omega)⟩
   ·exact⟨he,zDL hS (by show 1≤n.term+1;omega) _ (by show(n.nodes.toNat:Int)≤n.nodes;omega)⟩
end
section
variable [zS]
def zr:zJ:=zY
theorem zEg:zh Tryz.prog 113 zr:=by
 refine zP [0,1,2] [.tmp 2] (zA (cs:=[]) zJl (zA (cs:=[]) zEj (zD (zB [])))) mixed Tryz.func113 rfl (by decide) rfl (by decide) rfl ?_
 intro ps hT hpre W hW
 simp only[zr,TyA,Ty,Tys] at hT hpre
 simp only[zY,TyA,Ty,Tys] at hT hpre
 obtain⟨_,_,rfl,⟨_,rfl,_,_,rfl,⟨m0,rfl,hm0⟩,_,_,rfl,⟨m1,rfl,hm1⟩,_,_,rfl,⟨m2,rfl,hm2⟩,_,_,rfl,⟨m3,rfl,hm3⟩,_,_,rfl,⟨m4,rfl,hm4⟩,_,_,rfl,⟨m5,rfl,hm5⟩,_,_,rfl,⟨m6,rfl,hm6⟩,_,_,rfl,⟨m7,rfl⟩,_,_,rfl,⟨m8,rfl,hm8,tm8⟩,rfl⟩,rfl⟩:=hT
 refine hW.vc [(5,[],tkN [0,1,2,3,4,5,6,7,8,9,10,11,12] (alS 13 (tkN [14,15,16,17,18,19,20,21,22,23,24,25,26,27,28,29,30,31,32,33,34,35,36,37,38,39,40] (alS 41 .done))))] _ _ ?_
 simp[-List.getD_eq_getElem?_getD,zr,zCC,zDC,zY,zT,zAg,zT,zAg,zY,yk]
 refine⟨fun h=>?_,fun b1 b2 b3 b4 b5 b6 b7 b8=>⟨fun h _=>?_,fun h=>⟨by decide +kernel,fun _ _=>⟨fun a b c=>⟨⟨⟨a,b⟩,c⟩,List.length_pos_iff.2 c⟩,fun _=>⟨fun a b=>⟨⟨a,b⟩,fun c=>⟨⟨a,b⟩,c⟩⟩,fun a b c=>⟨⟨⟨a,b⟩,c⟩,fun d=>⟨⟨⟨a,b⟩,c⟩,d⟩⟩,?_⟩⟩⟩⟩⟩
 ·have:zKn ⟨m0,m1,m2,m3,m4,m5,m6,m7,m8⟩=false:=by
   rcases h with ((((((h | h) | h) | h) | h) | h) | h) | h<;>simp[zKn,h]
  simp[mgB,this]
 ·have h1:zKn ⟨m0,m1,m2,m3,m4,m5,m6,m7,m8⟩=true:=by simp[zKn,b1,b2,b3,b4,b5,b6,b7,b8]
  have hk:(m0 == 3)=false:=by simp[h]
  simp only[mgB,h1,hk,cond_false,Bool.true_and]
  rw[Bool.eq_iff_iff]
  simp
 ·have h1:zKn ⟨m0,m1,m2,m3,m4,m5,m6,m7,m8⟩=true:=by simp[zKn,b1,b2,b3,b4,b5,b6,b7,b8]
  have hk:(m0 == 3)=true:=by simp[h]
  rw[zC (n:=60 - m4) (by simp[inB] at b6;omega)]
  have hq:stB m3 0 m8=zKl m3 m8:=by
   have q1:inB m3 0 1000=true:=by simp[inB] at b5 ⊢;omega
   have q2:inB 0 (-1) 4=true:=by decide
   simp[stB,q1,q2]
  simp only[mgB,h1,hk,cond_true,Bool.true_and,zY5,leB,ltB,hq]
  rw[Bool.eq_iff_iff]
  simp
  exact fun _ _=>And.comm
end
section
variable [zS]
theorem zKV(es:List PV):eqL (fun x y=>x.S == y.S) es es=true:=y9 fun _=>by simp
end
section
variable [zS]
def zDV(a b:PV):Bool:=zNc a.A b.A
theorem zE0(es:List PV):eqL zDV es es=true:=y9 fun _=>zGN _
def zGK(a b:List PV):Bool:=(nth a 0).S == (nth b 0).S&&(nth a 1).I == (nth b 1).I
def zBT(a b:PV):Bool:=zGK a.A b.A
theorem zEz(a:List PV):zGK a a=true:=by simp[zGK]
theorem zEC(es:List PV):eqL zBT es es=true:=y9 fun _=>zEz _
def zHd(a b:List PV):Bool:=eqL zDV (nth a 0).L (nth b 0).L&&eqL zBT (nth a 1).L (nth b 1).L&&eqL zDZ (nth a 2).L (nth b 2).L&&eqL (fun x y=>x.S == y.S) (nth a 3).L (nth b 3).L
theorem zE1(a:List PV):zHd a a=true:=by simp[zHd,zE0,zEC,zGO,y9]
def yA:zJ:=⟨[(.rd,.agg [.list (.agg [.int .i64,.int .i64,.int .i64,.int .i64,.int .i64,.bool,.list (.agg [.int .i64,.str]),.int .i64,.int .i64,.int .i64,.list (.int .i64),.list (.int .i64),.list (.int .i64)]),.list (.agg [.str,.int .i64]),.list (.agg [.int .i64,.int .i64,.int .i64,.int .i64,.int .i64,.int .i64,.int .i64,.bool,.list (.agg [.int .i64,.str])]),.list .str]),(.rd,.agg [.list (.agg [.int .i64,.int .i64,.int .i64,.int .i64,.int .i64,.bool,.list (.agg [.int .i64,.str]),.int .i64,.int .i64,.int .i64,.list (.int .i64),.list (.int .i64),.list (.int .i64)]),.list (.agg [.str,.int .i64]),.list (.agg [.int .i64,.int .i64,.int .i64,.int .i64,.int .i64,.int .i64,.int .i64,.bool,.list (.agg [.int .i64,.str])]),.list .str])],[.bool],true,fun _=>True,fun ps=>[.bool (zHd (nth ps 0).A (nth ps 1).A)],fun _=>[]⟩
end
section
variable [zS]
def zCA(nodes:Int):Nat→List PV
 | 0=>[]
 | k+1=>zCA nodes k++[(zCr k nodes 0 (-1) []).pv]
theorem yL(nodes:Int):∀k,(zCA nodes k).length=k
 | 0=>rfl
 | k+1=>by simp[zCA,yL nodes k]
def st0:PV:=.agg [.str [],.int .i64 0]
def zH:zJ:=⟨[(.rd,.int .i64)],[.agg [.list (.agg [.int .i64,.int .i64,.int .i64,.int .i64,.int .i64,.bool,.list (.agg [.int .i64,.str]),.int .i64,.int .i64,.int .i64,.list (.int .i64),.list (.int .i64),.list (.int .i64)]),.list (.agg [.str,.int .i64]),.list (.agg [.int .i64,.int .i64,.int .i64,.int .i64,.int .i64,.int .i64,.int .i64,.bool,.list (.agg [.int .i64,.str])]),.list .str]],true,fun ps=>1≤(nth ps 0).I∧(nth ps 0).I≤5,fun ps=>[.agg [.list (zCA (nth ps 0).I (nth ps 0).I.toNat),.list (List.replicate (nth ps 0).I.toNat st0),.list [],.list []]],fun _=>[]⟩
theorem zEi:zh Tryz.prog 50 zH:=by
 refine zP [0,2,3,4,8,9] [.cell 2 29] (zA (cs:=[]) zLC (zD (zB []))) mixed Tryz.func50 rfl (by decide) rfl (by decide) rfl ?_
 intro ps hT hpre W hW
 simp only[zH,TyA,Ty,Tys] at hT hpre
 obtain⟨_,_,rfl,⟨nodes,rfl,hnodes⟩,rfl⟩:=hT
 simp only[zE,zF,yp] at hpre
 refine hW.vc [(5,[6,8],tkN [0,1,2,3] (alN [4,5,6] (tkN [7] (alS 8 .done))))] _ _ ?_
 simp[-List.reduceReplicate,-List.getD_eq_getElem?_getD,zH,zCe]
 refine⟨⟨by omega,by omega,by omega⟩,?_⟩
 refine hW.loopS _ _ _ [.bx 3 [.list (.agg [.int .i64,.int .i64,.int .i64,.int .i64,.int .i64,.bool,.list (.agg [.int .i64,.str]),.int .i64,.int .i64,.int .i64,.list (.int .i64),.list (.int .i64),.list (.int .i64)]),.list (.agg [.str,.int .i64]),.list (.agg [.int .i64,.int .i64,.int .i64,.int .i64,.int .i64,.int .i64,.int .i64,.bool,.list (.agg [.int .i64,.str])]),.list .str],.sl 9 .dp (.int .i64)] (fun ys=>∃i:Nat,ys=[.agg [.list (zCA nodes i),.list (List.replicate nodes.toNat st0),.list [],.list []],.int .i64 i]∧(i:Int)≤nodes) (fun ys=>nodes.toNat - (nth ys 1).I.toNat) ?_ ?_
 ·simp[-List.reduceReplicate,-List.getD_eq_getElem?_getD,zH,zCe]
  exact⟨0,⟨⟨rfl,.inr rfl⟩,rfl⟩,by omega⟩
 ·rintro ys ⟨i,rfl,g1⟩
  have w1:IntKind.i64.wrap ((i:Int)+1)=i+1:=zC (by omega)
  have hl:=yL nodes i
  refine hW.vc [(5,[6,8],tkN [0,1,2,3] (alN [4,5,6] (tkN [7] (alS 8 .done))))] _ _ ?_
  simp[-List.reduceReplicate,-List.getD_eq_getElem?_getD,zH,zCe,zCr,ND.pv,w1]
  refine⟨fun h=>⟨by decide +kernel,⟨by omega,by omega,by omega⟩,by omega,fun _=>⟨⟨i+1,⟨rfl,rfl⟩,by omega⟩,by omega⟩⟩,fun h=>?_⟩
  have:i=nodes.toNat:=by omega
  rw[this]
def zv:zJ:=zH
theorem zF8:zh Tryz.prog 46 zv:=by
 refine zP [0,2,3,4] [.cell 2 29] (zA (cs:=[]) zLf (zD (zB []))) mixed Tryz.func46 rfl (by decide) rfl (by decide) rfl ?_
 intro ps hT hpre W hW
 simp only[zv,TyA,Ty,Tys] at hT hpre
 simp only[zH,TyA,Ty,Tys] at hT hpre
 obtain⟨_,_,rfl,⟨nodes,rfl,hnodes⟩,rfl⟩:=hT
 simp only[zE,zF,yp] at hpre
 refine hW.vc [(5,[7,9],tkN [0,1,2,3,4] (alN [5,6,7] (tkN [8] (alS 9 .done))))] _ _ ?_
 simp[-List.reduceReplicate,-List.getD_eq_getElem?_getD,zv,zB2,zH,zH]
 refine hW.loopS _ _ _ [.bx 3 [.list (.agg [.int .i64,.int .i64,.int .i64,.int .i64,.int .i64,.bool,.list (.agg [.int .i64,.str]),.int .i64,.int .i64,.int .i64,.list (.int .i64),.list (.int .i64),.list (.int .i64)]),.list (.agg [.str,.int .i64]),.list (.agg [.int .i64,.int .i64,.int .i64,.int .i64,.int .i64,.int .i64,.int .i64,.bool,.list (.agg [.int .i64,.str])]),.list .str],.sl 4 .dp (.int .i64)] (fun ys=>∃i:Nat,ys=[.agg [.list (zCA nodes i),.list (List.replicate i st0),.list [],.list []],.int .i64 i]∧(i:Int)≤nodes) (fun ys=>nodes.toNat - (nth ys 1).I.toNat) ?_ ?_
 ·simp[-List.reduceReplicate,-List.getD_eq_getElem?_getD,zv,zB2,zH]
  exact⟨0,⟨⟨rfl,rfl⟩,rfl⟩,by omega⟩
 ·rintro ys ⟨i,rfl,g1⟩
  have w1:IntKind.i64.wrap ((i:Int)+1)=i+1:=zC (by omega)
  have hl:=yL nodes i
  refine hW.vc [(5,[7,9],tkN [0,1,2,3,4] (alN [5,6,7] (tkN [8] (alS 9 .done))))] _ _ ?_
  simp[-List.reduceReplicate,-List.getD_eq_getElem?_getD,zv,zB2,zH,zCr,ND.pv,w1,zH]
  refine⟨fun h=>⟨by decide +kernel,⟨by omega,by omega,by omega⟩,by omega,fun _=>⟨by omega,fun _=>⟨⟨i+1,⟨⟨rfl,(List.replicate_succ').symm⟩,rfl⟩,by omega⟩,by omega⟩⟩⟩,fun h=>?_⟩
  have:i=nodes.toNat:=by omega
  exact⟨by rw[←this],this⟩
end
section
variable [zS]
theorem zWQ{cnt:Int}{i:Nat}{n:ND}{b:List UInt8}(a4:NdI cnt i n b){d:Int}(hrt:n.role≠0→1≤n.term)(hr:(zJY n d).2.2=0):TkI cnt n i (zJY n d)∧zJY n d=((zBD n d).1,(zBD n d).2,0)∧0≤d∧d≤1000000∧n.up=true:=by
 unfold zJY at hr ⊢
 cases c1:zB9 n with
 | false=>rw[c1] at hr;simp at hr
 | true=>
  rw[c1] at hr
  simp only[cond_true] at hr ⊢
  cases c2:inB d 0 1000000 with
  | false=>rw[c2] at hr;simp at hr
  | true=>
   rw[c2] at hr
   simp only[cond_true] at hr ⊢
   have hd:=zk.1 c2
   cases c3:n.up with
   | false=>rw[c3] at hr;simp at hr
   | true=>
    simp only[cond_true,and_true]
    have hS:=zRH (d:=d) a4.F
    have hV:=zM4 a4.F hd.1 c3 hrt a4.e
    have nds:=a4.nds
    refine⟨⟨zPS a4.F hd.1 c3,by rw[hS.i];exact a4.id,by rw[hS.nd];exact nds,hV.1,hS.t0,fun a ha=>?_,hS.rt,hS.mono (l:=1000) (by decide)⟩,trivial,hd⟩
    have:=hV.2 a ha
    rw[nds] at this
    exact this
theorem zKI{n:ND}{d:List UInt8}(hF:NdF n)(ht:1≤n.term)(hl:(n.log.length:Int)≠60)(hd:leB d.length 400=true):NdF (yG n d):=by
 have l6:=hF.l6
 have c0:=hF.c0;have c1:=hF.c1
 have hc:=zFh (zAe n d) hF.c0 (n.log.length+1)
 have hcl:(zAe n d).com=n.com:=rfl
 have hcm:(yG n d).com=zGi (zAe n d) (n.log.length+1):=rfl
 have hll:((yG n d).log.length:Int)=n.log.length+1:=by show((n.log++[_]).length:Int)=_;simp
 have hen:zIr n.term 0 (n.log++[.agg [.int .i64 n.term,.str d]])=true:=zIY (e:=.agg [.int .i64 n.term,.str d]) hd ht rfl (by omega) hF.en
 have hl60:(yG n d).log.length≤60:=by omega
 have hnm:=zKO (l:=n.log.length) (l':=(yG n d).log.length) (by omega) hF.nm
 exact⟨hF.n1,hF.n5,hF.i0,hF.i1,hF.t0,hF.t1,hen,hl60,hF.r0,hF.r2,hF.ur,by show 0≤(yG n d).com;omega,by show(yG n d).com≤((yG n d).log.length:Int);omega,hF.e0,hF.e1,hF.w5,hF.w1,hF.nx,hF.ms,hF.vo,hnm,hF.vt⟩
theorem zNI{n:ND}{d:List UInt8}(hF:NdF n):Stp n (yG n d) 0:=
 ⟨Int.le_refl _,by show n.term≤n.term+0;omega,(zFh (zAe n d) hF.c0 (n.log.length+1)).1,fun _ _=>rfl,rfl,rfl,rfl,fun h=>h⟩
theorem zWN{cnt:Int}{i:Nat}{n:ND}{b:List UInt8}(a4:NdI cnt i n b){d:List UInt8}(hrt:n.role≠0→1≤n.term)(hr:(zJX n d).2.2=0):TkI cnt n i (zJX n d)∧zJX n d=(yG n d,zAx (yG n d) n.nodes.toNat,0)∧n.role=2∧(n.log.length:Int)≠60∧n.up=true∧leB d.length 400=true:=by
 unfold zJX at hr ⊢
 split at hr
 ·simp at hr
 ·rename_i c0
  rw[if_neg c0]
  cases c1:zB9 n with
  | false=>rw[c1] at hr;simp at hr
  | true=>
   rw[c1] at hr
   simp only[cond_true] at hr ⊢
   cases c2:inB (d.length:Int) 1 400 with
   | false=>rw[c2] at hr;simp at hr
   | true=>
    rw[c2] at hr
    simp only[cond_true] at hr ⊢
    have hd:=zk.1 c2
    unfold zHG at hr ⊢
    split at hr
    ·simp at hr
    ·rename_i c3
     rw[if_neg c3]
     split at hr
     ·simp at hr
     ·rename_i c4
      rw[if_neg c4]
      split at hr
      ·simp at hr
      ·rename_i c5
       rw[if_neg c5]
       have hro:n.role=2:=Decidable.byContradiction c4
       have hl4:leB d.length 400=true:=by simp[leB];omega
       have ht:=hrt (by omega)
       have hF:=zKI (d:=d) a4.F ht c5 hl4
       have hS:=zNI (d:=d) a4.F
       have nds:=a4.nds
       have n1:=a4.F.n1
       have hE:∀a∈(yG n d).log,isE a:=by
        intro a ha
        rcases List.mem_append.1 (show a∈n.log++_ from ha) with ha | ha
        ·exact a4.e a ha
        ·exact⟨_,_,List.mem_singleton.1 ha⟩
       refine⟨⟨hF,a4.id,nds,hE,Int.le_refl _,fun a ha=>?_,fun h=>h,hS.mono (l:=1000) (by decide)⟩,rfl,hro,c5,by simpa using c3,hl4⟩
       have:=zDO hF ht hE n.nodes.toNat (by show(n.nodes.toNat:Int)≤n.nodes;omega) a ha
       rw[←nds];exact this
theorem zI0{c:CL}(h:ClI c){i:Nat}(hi:i < c.ns.length){r:ND × List PV × Int}(hT:r.2.2=0→TkI c.ns.length (yH c.ns i) i r)(hR:RtI c):ClI (zCy c r).1∧RtI (zCy c r).1∧(zCy c r).1.ns.length=c.ns.length:=by
 unfold zCy
 split
 ·exact⟨h,hR,rfl⟩
 ·rename_i hr
  have hT:=hT (Decidable.byContradiction hr)
  exact⟨zJF h hi hT,zQw hR hi hT.id (hT.rt (hR i hi)),zNx⟩
theorem zHW{n:ND}(h:NdF n):NdF (zO2 n):=
 ⟨h.n1,h.n5,h.i0,h.i1,h.t0,h.t1,h.en,h.l6,h.r0,h.r2,.inl rfl,h.c0,h.c1,h.e0,h.e1,h.w5,h.w1,h.nx,h.ms,h.vo,h.nm,h.vt⟩
theorem zHZ{l:List PV}{i:Nat}{x:PV}(h:nth l i=x)(hi:i < l.length):l.set i x=l:=by
 rw[←h,zHX hi];exact List.set_getElem_self hi
theorem zN5{c:CL}(h:ClI c)(hR:RtI c)(a:CA)(ha:inB a.node 0 (c.ns.length - 1)=true):ClI (zIz c a).1∧RtI (zIz c a).1∧(zIz c a).1.ns.length=c.ns.length:=by
 have ha:=zk.1 ha
 obtain⟨i,hi⟩:∃i:Nat,a.node=i:=⟨a.node.toNat,by omega⟩
 have hil:i < c.ns.length:=by omega
 unfold zIz
 rw[hi,Int.toNat_natCast]
 obtain⟨a1,a2,a3,a4⟩:=h.at hil
 split
 ·split
  ·exact⟨h,hR,rfl⟩
  ·have hp:=h.put hil (x:=zO2 (yH c.ns i)) ⟨zHW a4.F,a4.id,a4.nds,a4.e,a4.l,a4.h⟩ h.wl h.wm h.dl h.dm
   rw[zHZ a2 (by rw[h.sl];exact hil)] at hp
   exact⟨hp,hR.put hil (x:=zO2 (yH c.ns i)) (hR i hil),by simp⟩
 ·split
  ·exact⟨h,hR,rfl⟩
  ·split
   ·exact⟨zQ7 h hil (zL4 h hil 0),zQ6 hR hil,zOK⟩
   ·split
    ·exact zI0 h hil (fun hr=>(zWQ a4 (hR i hil) hr).1) hR
    ·split
     ·exact⟨h,hR,rfl⟩
     ·exact zI0 h hil (fun hr=>(zWN a4 (hR i hil) hr).1) hR
theorem zM8{c:CL}(h:ClI c)(hR:RtI c)(a:CA):ClI (zAS c a).1∧RtI (zAS c a).1∧(zAS c a).1.ns.length=c.ns.length:=by
 unfold zAS
 split
 ·have:=zSu h a
  exact⟨this.1,this.2.1 hR,this.2.2⟩
 ·split
  ·split
   ·exact⟨h,hR,rfl⟩
   ·rename_i ha
    exact zN5 h hR a (by simpa using ha)
  ·exact⟨h,hR,rfl⟩
theorem zBL(nodes:Int):∀(k i:Nat),i < k→nth (zCA nodes k) i=(zCr i nodes 0 (-1) []).pv
 | 0,i,h=>by omega
 | k+1,i,h=>by
  rw[zCA]
  by_cases e:i < k
  ·rw[zEd (by rw[yL];exact e)];exact zBL nodes k i e
  ·have:i=(zCA nodes k).length:=by rw[yL];omega
   rw[this,zF2,yL]
theorem zR7{i cnt:Nat}(hi:i < cnt)(h5:cnt≤5):NdF (zCr i cnt 0 (-1) []):=by
 have h:=zWo (s:=ST.one) (i:=i) (cnt:=cnt) (by decide) hi h5 (by show(-1:Int) < cnt;omega)
 exact zHW h
def yR(nodes:Nat):CL:=⟨zCA nodes nodes,List.replicate nodes st0,[],[]⟩
theorem zK4{nodes:Nat}(h1:1≤nodes)(h5:nodes≤5):ClI (yR nodes)∧RtI (yR nodes):=by
 have hl:(yR nodes).ns.length=nodes:=yL nodes nodes
 refine⟨⟨by omega,by omega,by rw[hl];simp[yR],fun i hi=>?_,by simp[yR],by simp[yR],by simp[yR],by simp[yR]⟩,fun i hi hr=>?_⟩
 ·have hi':i < nodes:=by omega
  refine⟨zCr i nodes 0 (-1) [],[],zBL _ _ _ hi',?_,?_⟩
  ·show nth (List.replicate nodes st0) i=_
   rw[zJL hi'];rfl
  ·rw[hl]
   exact⟨zR7 hi' h5,rfl,rfl,by simp[zCr],by simp,zGF⟩
 ·have:yH (yR nodes).ns i=zCr i nodes 0 (-1) []:=by
   rw[yH,show nth (yR nodes).ns i=_ from zBL _ _ _ (by omega)];rfl
  rw[this] at hr
  exact absurd rfl hr
end
section
variable [zS]
def zW:zJ:=⟨[(.rd,.agg [.str,.int .i64])],[.bool],true,fun _=>True,fun ps=>[.bool (zDz (nth (nth ps 0).A 0).S (nth (nth ps 0).A 1).I)],fun _=>[]⟩
theorem zEI:zh Tryz.prog 85 zW:=by
 refine zP [0,1,2] [.tmp 2] (zA (cs:=[]) zA9 (zD (zB []))) mixed Tryz.func85 rfl (by decide) rfl (by decide) rfl ?_
 intro ps hT hpre W hW
 simp only[zW,TyA,Ty,Tys] at hT hpre
 obtain⟨_,_,rfl,⟨_,rfl,_,_,rfl,⟨b,rfl,hb⟩,_,_,rfl,⟨sure,rfl,hsure⟩,rfl⟩,rfl⟩:=hT
 refine hW.vc [] _ _ ?_
 simp[-List.getD_eq_getElem?_getD,zW,zT]
 exact fun _ _=>rfl
def yY:zJ:=zW
theorem zIQ:zh Tryz.prog 109 yY:=by
 refine zP [0,1,2] [.tmp 2] (zA (cs:=[]) zEj (zD (zB []))) mixed Tryz.func109 rfl (by decide) rfl (by decide) rfl ?_
 intro ps hT hpre W hW
 simp only[yY,TyA,Ty,Tys] at hT hpre
 simp only[zW,TyA,Ty,Tys] at hT
 obtain⟨_,_,rfl,⟨_,rfl,_,_,rfl,⟨b,rfl,hb⟩,_,_,rfl,⟨sure,rfl,hsure⟩,rfl⟩,rfl⟩:=hT
 refine hW.vc [] _ _ ?_
 simp[-List.getD_eq_getElem?_getD,yY,zCC,zW,zT,zT,zW]
 exact fun _ _=>rfl
theorem zGT:∀{us vs:List PV},us.length=vs.length→((zBk us vs:Int) == us.length)=eqL ze us vs
 | [],[],_=>rfl
 | [],_ :: _,h=>by simp at h
 | _ :: _,[],h=>by simp at h
 | a :: us,b :: vs,h=>by
  have ih:=zGT (us:=us) (vs:=vs) (by simpa using h)
  simp only[zBk,eqL]
  cases hk:ze a b with
  | false=>simp;omega
  | true=>
   rw[if_pos rfl,Bool.true_and,←ih,Bool.eq_iff_iff]
   simp only[beq_iff_eq,List.length_cons]
   omega
def yX:zJ:=⟨[(.rd,.agg [.int .i64,.int .i64,.list (.agg [.int .i64,.str])]),(.rd,.agg [.int .i64,.int .i64,.list (.agg [.int .i64,.str])])],[.bool],true,fun _=>True,fun ps=>[.bool (decide ((nth (nth ps 0).A 0).I=(nth (nth ps 1).A 0).I)&&decide ((nth (nth ps 0).A 1).I=(nth (nth ps 1).A 1).I)&&eqL ze (nth (nth ps 0).A 2).L (nth (nth ps 1).A 2).L)],fun _=>[]⟩
theorem zIJ:zh Tryz.prog 111 yX:=by
 refine zP [0,1,2,3,4] [.tmp 4] (zA (cs:=[]) zIK (zD (zB []))) mixed Tryz.func111 rfl (by decide) rfl (by decide) rfl ?_
 intro ps hT hpre W hW
 simp only[yX,TyA,Ty,Tys] at hT hpre
 obtain⟨_,_,rfl,⟨_,rfl,_,_,rfl,⟨t,rfl,ht⟩,_,_,rfl,⟨v,rfl,hv⟩,_,_,rfl,⟨es,rfl,hes,tes⟩,rfl⟩,_,_,rfl,⟨_,rfl,_,_,rfl,⟨t2,rfl,ht2⟩,_,_,rfl,⟨v2,rfl,hv2⟩,_,_,rfl,⟨es2,rfl,hes2,tes2⟩,rfl⟩,rfl⟩:=hT
 refine hW.vc [(1,[],tkN [0,1,2,3,4,5,6,7,8,9,10,11,12,13,14,15,16,17,18,19,20,21,22,23,24,25,27,28,29] (alS 26 (tkN [30,31] (alS 32 .done))))] _ _ ?_
 simp[-List.getD_eq_getElem?_getD,yX,zA7]
 refine⟨by decide +kernel,fun _ _ _=>?_⟩
 by_cases hl:es.length=es2.length
 ·have:decide ((es.length:Int)=es2.length)=true:=decide_eq_true (by omega)
  rw[zGT hl,this,Bool.and_true]
  rfl
 ·have:decide ((es.length:Int)=es2.length)=false:=decide_eq_false (by omega)
  rw[this,zAX hl]
  simp
end
section
variable [zS]
def yS:zJ:=⟨[(.rd,.list (.agg [.int .i64,.str])),(.rd,.list (.agg [.int .i64,.str]))],[.bool],true,fun _=>True,fun ps=>[.bool (eqL ze (nth ps 0).L (nth ps 1).L)],fun _=>[]⟩
theorem zGC:zh Tryz.prog 118 yS:=by
 refine zP [0,1,4,5,12,13] [.tmp 4] (zD (zB [])) mixed Tryz.func118 rfl (by decide) rfl (by decide) rfl ?_
 intro ps hT hpre W hW
 simp only[yS,TyA,Ty,Tys] at hT hpre
 obtain⟨_,_,rfl,⟨es,rfl,hes,tes⟩,_,_,rfl,⟨fs,rfl,hfs,tfs⟩,rfl⟩:=hT
 refine hW.vc [(6,[],tkN [0,1,2,3,4,5,6,7,8] .done)] _ _ ?_
 simp[-List.getD_eq_getElem?_getD,yS]
 refine fun _ _=>⟨fun h3=>zAX (by omega),fun h3 _=>?_⟩
 refine hW.loopS _ _ _ [.sl 13 .dp (.int .i64)] (fun ys=>∃i:Nat,ys=[.int .i64 i]∧i≤es.length∧eqL ze es fs=eqL ze (es.drop i) (fs.drop i)) (fun ys=>es.length - (nth ys 0).I.toNat) ?_ ?_
 ·simp[-List.getD_eq_getElem?_getD,yS]
  exact⟨0,rfl,by omega,by simp⟩
 ·rintro ys ⟨i,rfl,h4,h5⟩
  refine hW.vc [(6,[],tkN [0,1,2,3,4,5,6,7,8] .done)] _ _ ?_
  simp[-List.getD_eq_getElem?_getD,yS]
  refine⟨fun h6=>⟨by decide +kernel,h6,fun _ _ _=>⟨by omega,fun _ _ _=>⟨by decide +kernel,fun h7=>?_,fun h7 h8=>?_⟩⟩⟩,fun h6=>?_⟩
  ·have hx:ze (nth es i) (nth fs i)=false:=zGM fun a b=>by
    rcases h7 with h7 | h7
    ·exact h7 a
    ·exact h7 b
   rw[h5,zG h6,zG (by omega:i < fs.length),eqL,hx,Bool.false_and]
  ·rw[zC (by omega)]
   refine⟨⟨i+1,by omega,by omega,?_⟩,by omega⟩
   rw[h5,zG h6,zG (by omega:i < fs.length),eqL,zGL h7 h8,Bool.true_and]
  ·rw[h5,List.drop_eq_nil_of_le h6,List.drop_eq_nil_of_le (by omega)];rfl
def mgX(cnt:Int)(e:PV):Bool:=!mgB (yk e.A) || decide (cnt≤(yk e.A).frm) || decide (cnt≤(yk e.A).to)
theorem zIA(w:Int)(e:PV):mgX w (.agg [.int .i64 (nth e.A 0).I,.int .i64 (nth e.A 1).I,.int .i64 (nth e.A 2).I,.int .i64 (nth e.A 3).I,.int .i64 (nth e.A 4).I,.int .i64 (nth e.A 5).I,.int .i64 (nth e.A 6).I,.bool (nth e.A 7).B,.list (nth e.A 8).L])=mgX w e:=rfl
def zu:zJ:=⟨[(.rd,.agg [.int .i64,.int .i64,.int .i64,.int .i64,.int .i64,.int .i64,.int .i64,.bool,.list (.agg [.int .i64,.str])]),(.rd,.box [.int .i64])],[.bool],true,fun _=>True,fun ps=>[.bool (mgX (nth (nth ps 1).A 0).I (nth ps 0))],fun _=>[]⟩
theorem zCc:zh Tryz.prog 120 zu:=by
 refine zP [0,1,2,3] [.tmp 3] (zA (cs:=[]) zFZ (zD (zB []))) mixed Tryz.func120 rfl (by decide) rfl (by decide) rfl ?_
 intro ps hT hpre W hW
 simp only[zu,TyA,Ty,Tys] at hT hpre
 obtain⟨_,_,rfl,hm,_,_,rfl,⟨_,rfl,_,_,rfl,⟨w,rfl,hw⟩,rfl⟩,rfl⟩:=hT
 obtain⟨_,rfl,_,_,rfl,⟨m0,rfl,hm0⟩,_,_,rfl,⟨m1,rfl,hm1⟩,_,_,rfl,⟨m2,rfl,hm2⟩,_,_,rfl,⟨m3,rfl,hm3⟩,_,_,rfl,⟨m4,rfl,hm4⟩,_,_,rfl,⟨m5,rfl,hm5⟩,_,_,rfl,⟨m6,rfl,hm6⟩,_,_,rfl,⟨m7,rfl⟩,_,_,rfl,⟨m8,rfl,hm8,tm8⟩,rfl⟩:=hm
 refine hW.vc [] _ _ ?_
 simp[-List.getD_eq_getElem?_getD,zu,zY,yk,mgX]
 rfl
def zR:zJ:=⟨[(.rd,.list (.agg [.int .i64,.int .i64,.int .i64,.int .i64,.int .i64,.int .i64,.int .i64,.bool,.list (.agg [.int .i64,.str])])),(.rd,.fn 120 [.box [.int .i64]])],[.int .i64],true,fun _=>True,fun ps=>[.int .i64 (zBA (mgX (nth (nth (nth ps 1).A 0).A 0).I) 0 (nth ps 0).L)],fun _=>[]⟩
theorem yt:zh Tryz.prog 165 zR:=by
 refine zP [0,1,4,5,7,8] [.tmp 4] (zA (cs:=[]) zCc (zD (zB []))) mixed Tryz.func165 rfl (by decide) rfl (by decide) rfl ?_
 intro ps hT hpre W hW
 simp only[zR,TyA,Ty,Tys] at hT hpre
 obtain⟨_,_,rfl,⟨es,rfl,he,hes⟩,_,_,rfl,⟨_,rfl,_,_,rfl,⟨_,rfl,_,_,rfl,⟨w,rfl,hw⟩,rfl⟩,rfl⟩,rfl⟩:=hT
 refine hW.vc [] _ _ ?_
 simp[-List.getD_eq_getElem?_getD,zR,zu]
 intro h1
 refine hW.loopS _ _ _ [.sl 8 .dp (.int .i64)] (fun ys=>∃i:Nat,ys=[.int .i64 i]∧i≤es.length∧zBA (mgX w) 0 es=zBA (mgX w) i (es.drop i)) (fun ys=>es.length - (nth ys 0).I.toNat) ?_ ?_
 ·simp[-List.getD_eq_getElem?_getD,zR,zu]
  exact⟨0,rfl,by simp,by simp⟩
 ·rintro ys ⟨i,rfl,h2,h3⟩
  refine hW.vc [] _ _ ?_
  simp[-List.getD_eq_getElem?_getD,zR,zu,zIA]
  refine⟨fun h4=>⟨h4,fun _ _ _ _ _ _ _ _ _ _ _ _ _ _ _=>⟨fun h5=>?_,fun h5=>?_⟩⟩,fun h4=>?_⟩
  ·rw[h3,zG h4];simp[zBA,h5]
  ·rw[zC (by omega)]
   refine⟨⟨i+1,by omega,by omega,?_⟩,by omega⟩
   rw[h3,zG h4];simp[zBA,h5]
  ·rw[h3,List.drop_eq_nil_of_le h4];rfl
def zO:zJ:=⟨[(.rd,.list (.agg [.int .i64,.int .i64,.int .i64,.int .i64,.int .i64,.int .i64,.int .i64,.bool,.list (.agg [.int .i64,.str])])),(.rd,.fn 120 [.box [.int .i64]])],[.bool],true,fun _=>True,fun ps=>[.bool ((nth ps 0).L.any (mgX (nth (nth (nth ps 1).A 0).A 0).I))],fun _=>[]⟩
theorem yV:zh Tryz.prog 119 zO:=by
 refine zP [0,1,4] [.tmp 4] (zA (cs:=[120]) yt (zD (zB []))) mixed Tryz.func119 rfl (by decide) rfl (by decide) rfl ?_
 intro ps hT hpre W hW
 simp only[zO,TyA,Ty,Tys] at hT hpre
 obtain⟨_,_,rfl,⟨es,rfl,he,hes⟩,_,_,rfl,⟨_,rfl,_,_,rfl,⟨_,rfl,_,_,rfl,⟨w,rfl,hw⟩,rfl⟩,rfl⟩,rfl⟩:=hT
 refine hW.vc [] _ _ ?_
 simp[-List.getD_eq_getElem?_getD,zO,zR]
 exact zDA _ _ _
def zAU(s:List UInt8):Bool:=decide (s.length > 400)
def zt:zJ:=⟨[(.rd,.str)],[.bool],true,fun _=>True,fun ps=>[.bool (zAU (nth ps 0).S)],fun _=>[]⟩
theorem zCb:zh Tryz.prog 123 zt:=by
 refine zP [0,2] [.tmp 2] (zD (zB [])) mixed Tryz.func123 rfl (by decide) rfl (by decide) rfl ?_
 intro ps hT hpre W hW
 simp only[zt,TyA,Ty,Tys] at hT hpre
 obtain⟨_,_,rfl,⟨l,rfl,hl⟩,rfl⟩:=hT
 refine hW.vc [] _ _ ?_
 simp[-List.getD_eq_getElem?_getD,zt]
 exact fun _=>by unfold zAU;congr 1;simp only[eq_iff_iff];omega
def zQ:zJ:=⟨[(.rd,.list .str),(.rd,.fn 123 [])],[.int .i64],true,fun ps=>True,fun ps=>[.int .i64 (zBA (fun e=>zAU e.S) 0 (nth ps 0).L)],fun _=>[]⟩
theorem yr:zh Tryz.prog 167 zQ:=by
 refine zP [0,1,4,5,7,8] [.tmp 4] (zA (cs:=[]) zCb (zD (zB []))) mixed Tryz.func167 rfl (by decide) rfl (by decide) rfl ?_
 intro ps hT hpre W hW
 simp only[zQ,TyA,Ty,Tys] at hT hpre
 obtain⟨_,_,rfl,⟨es,rfl,he,hes⟩,_,_,rfl,⟨_,rfl,rfl⟩,rfl⟩:=hT
 refine hW.vc [] _ _ ?_
 simp[-List.getD_eq_getElem?_getD,zQ,zt]
 intro h1
 refine hW.loopS _ _ _ [.sl 8 .dp (.int .i64)] (fun ys=>∃i:Nat,ys=[.int .i64 i]∧i≤es.length∧zBA (fun e=>zAU e.S) 0 es=zBA (fun e=>zAU e.S) i (es.drop i)) (fun ys=>es.length - (nth ys 0).I.toNat) ?_ ?_
 ·simp[-List.getD_eq_getElem?_getD,zQ,zt]
  exact⟨0,rfl,by simp,by simp⟩
 ·rintro ys ⟨i,rfl,h2,h3⟩
  refine hW.vc [] _ _ ?_
  simp[-List.getD_eq_getElem?_getD,zQ,zt]
  refine⟨fun h4=>⟨h4,fun _=>⟨fun h5=>?_,fun h5=>?_⟩⟩,fun h4=>?_⟩
  ·rw[h3,zG h4];simp[zBA,h5]
  ·rw[zC (by omega)]
   refine⟨⟨i+1,by omega,by omega,?_⟩,by omega⟩
   rw[h3,zG h4];simp[zBA,h5]
  ·rw[h3,List.drop_eq_nil_of_le h4];rfl
def zN:zJ:=⟨[(.rd,.list .str),(.rd,.fn 123 [])],[.bool],true,fun ps=>True,fun ps=>[.bool ((nth ps 0).L.any (fun e=>zAU e.S))],fun _=>[]⟩
theorem yU:zh Tryz.prog 122 zN:=by
 refine zP [0,1,4] [.tmp 4] (zA (cs:=[123]) yr (zD (zB []))) mixed Tryz.func122 rfl (by decide) rfl (by decide) rfl ?_
 intro ps hT hpre W hW
 simp only[zN,TyA,Ty,Tys] at hT hpre
 obtain⟨_,_,rfl,⟨es,rfl,he,hes⟩,_,_,rfl,⟨_,rfl,rfl⟩,rfl⟩:=hT
 refine hW.vc [] _ _ ?_
 simp[-List.getD_eq_getElem?_getD,zN,zQ]
 exact zDA (fun e=>zAU e.S) es 0
def rcB(n s:PV):Bool:=decide ((yP (nth s.A 0).S).2.2=0)&&decide ((yP (nth s.A 0).S).2.1.1=(nth s.A 0).S)&&decide ((yP (nth s.A 0).S).2.1.2=(nth s.A 1).I)&&decide ((yP (nth s.A 0).S).1.t=(z8 n.A).term)&&decide ((yP (nth s.A 0).S).1.v=(z8 n.A).vote)&&eqL ze (yP (nth s.A 0).S).1.log (z8 n.A).log
def atB(cnt:Int)(i:Nat)(n s:PV):Bool:=(zB9 (z8 n.A)&&decide ((z8 n.A).id=i)&&decide ((z8 n.A).nodes=cnt)&&zDz (nth s.A 0).S (nth s.A 1).I&&decide ((nth s.A 1).I=(nth s.A 0).S.length))&&rcB n s
def nsB(cnt:Int):Nat→List PV→List PV→Bool
 | i,n :: ns,s :: ss=>atB cnt i n s&&nsB cnt (i+1) ns ss
 | _,_,_=>true
def zCw(ns ss ws ds:List PV):Bool:=(inB ns.length 1 5&&decide (ss.length=ns.length)&&leB ws.length 60&&leB ds.length 60)&&nsB ns.length 0 ns ss&&(!ws.any (mgX ns.length)&&!ds.any fun e=>zAU e.S)
theorem zVB{cnt:Int}{i:Nat}{n s:PV}(h:(((zB9 (z8 n.A)=false∨¬(nth n.A 0).I=i)∨¬(nth n.A 1).I=cnt)∨zDz (nth s.A 0).S (nth s.A 1).I=false)∨¬(nth s.A 1).I=(nth s.A 0).S.length):atB cnt i n s=false:=by
 have e:(zB9 (z8 n.A)&&decide ((z8 n.A).id=i)&&decide ((z8 n.A).nodes=cnt)&&zDz (nth s.A 0).S (nth s.A 1).I&&decide ((nth s.A 1).I=(nth s.A 0).S.length))=false:=by
  rcases h with (((h | h) | h) | h) | h
  ·rw[h];simp
  ·have:decide ((z8 n.A).id=i)=false:=decide_eq_false h
   rw[this];simp
  ·have:decide ((z8 n.A).nodes=cnt)=false:=decide_eq_false h
   rw[this];simp
  ·rw[h];simp
  ·rw[decide_eq_false h];simp
 rw[atB,e,Bool.false_and]
theorem zR0{n s:PV}(h:((((¬(yP (nth s.A 0).S).2.2=0∨¬(yP (nth s.A 0).S).2.1.1=(nth s.A 0).S∨¬(yP (nth s.A 0).S).2.1.2=(nth s.A 1).I)∨¬(yP (nth s.A 0).S).1.t=(nth n.A 2).I)∨¬(yP (nth s.A 0).S).1.v=(nth n.A 3).I)∨eqL ze (yP (nth s.A 0).S).1.log (nth n.A 6).L=false)):rcB n s=false:=by
 unfold rcB
 rcases h with (((h | h | h) | h) | h) | h
 ·rw[decide_eq_false h];simp
 ·rw[decide_eq_false h];simp
 ·rw[decide_eq_false h];simp
 ·have:decide ((yP (nth s.A 0).S).1.t=(z8 n.A).term)=false:=decide_eq_false h
  rw[this];simp
 ·have:decide ((yP (nth s.A 0).S).1.v=(z8 n.A).vote)=false:=decide_eq_false h
  rw[this];simp
 ·have:eqL ze (yP (nth s.A 0).S).1.log (z8 n.A).log=false:=h
  rw[this];simp
theorem zOT{cnt:Int}{i:Nat}{n s:PV}(h1:zB9 (z8 n.A)=true)(h2:(nth n.A 0).I=i)(h3:(nth n.A 1).I=cnt)(h4:zDz (nth s.A 0).S (nth s.A 1).I=true)(h5:(nth s.A 1).I=(nth s.A 0).S.length):atB cnt i n s=rcB n s:=by
 have a2:decide ((z8 n.A).id=i)=true:=decide_eq_true h2
 have a3:decide ((z8 n.A).nodes=cnt)=true:=decide_eq_true h3
 rw[atB,h1,a2,a3,h4,decide_eq_true h5];rfl
theorem zRz{n s:PV}(h1:(yP (nth s.A 0).S).2.2=0)(h2:(yP (nth s.A 0).S).2.1.1=(nth s.A 0).S)(h3:(yP (nth s.A 0).S).2.1.2=(nth s.A 1).I)(h4:(yP (nth s.A 0).S).1.t=(nth n.A 2).I)(h5:(yP (nth s.A 0).S).1.v=(nth n.A 3).I)(h6:eqL ze (yP (nth s.A 0).S).1.log (nth n.A 6).L=true):rcB n s=true:=by
 have a4:decide ((yP (nth s.A 0).S).1.t=(z8 n.A).term)=true:=decide_eq_true h4
 have a5:decide ((yP (nth s.A 0).S).1.v=(z8 n.A).vote)=true:=decide_eq_true h5
 have a6:eqL ze (yP (nth s.A 0).S).1.log (z8 n.A).log=true:=h6
 rw[rcB,decide_eq_true h1,decide_eq_true h2,decide_eq_true h3,a4,a5,a6];rfl
theorem zH4{cnt:Int}{i:Nat}{ns ss:List PV}(h:i < ns.length)(h2:i < ss.length):nsB cnt i (ns.drop i) (ss.drop i)=(atB cnt i (nth ns i) (nth ss i)&&nsB cnt (i+1) (ns.drop (i+1)) (ss.drop (i+1))):=by
 rw[zG h,zG h2,nsB]
theorem zCt{ns ss ws ds:List PV}(h:nsB ns.length 0 ns ss=false):zCw ns ss ws ds=false:=by rw[zCw,h];simp
theorem zFd{ns ss ws ds:List PV}(h:((inB ns.length 1 5=false∨¬(ss.length:Int)=ns.length)∨60 < (ws.length:Int))∨60 < (ds.length:Int)):zCw ns ss ws ds=false:=by
 have e:(inB ns.length 1 5&&decide (ss.length=ns.length)&&leB ws.length 60&&leB ds.length 60)=false:=by
  rcases h with ((h | h) | h) | h
  ·rw[h];simp
  ·have:decide (ss.length=ns.length)=false:=decide_eq_false (by omega)
   rw[this];simp
  ·have:leB ws.length 60=false:=by simp[leB];omega
   rw[this];simp
  ·have:leB ds.length 60=false:=by simp[leB];omega
   rw[this];simp
 rw[zCw,e,Bool.false_and,Bool.false_and]
theorem zGU{ns ss ws ds:List PV}(h1:inB ns.length 1 5=true)(h2:(ss.length:Int)=ns.length)(h3:(ws.length:Int)≤60)(h4:(ds.length:Int)≤60):zCw ns ss ws ds=(nsB ns.length 0 ns ss&&(!ws.any (mgX ns.length)&&!ds.any fun e=>zAU e.S)):=by
 have a2:decide (ss.length=ns.length)=true:=decide_eq_true (by omega)
 have a3:leB ws.length 60=true:=by simp[leB];omega
 have a4:leB ds.length 60=true:=by simp[leB];omega
 rw[zCw,h1,a2,a3,a4];rfl
theorem zIj{p:PV→Bool}{es:List PV}:decide (∀x:PV,x∈es→p x=false)=!es.any p:=by
 rw[Bool.eq_iff_iff];simp
def zI:zJ:=⟨[(.rd,.agg [.list (.agg [.int .i64,.int .i64,.int .i64,.int .i64,.int .i64,.bool,.list (.agg [.int .i64,.str]),.int .i64,.int .i64,.int .i64,.list (.int .i64),.list (.int .i64),.list (.int .i64)]),.list (.agg [.str,.int .i64]),.list (.agg [.int .i64,.int .i64,.int .i64,.int .i64,.int .i64,.int .i64,.int .i64,.bool,.list (.agg [.int .i64,.str])]),.list .str])],[.bool],true,fun _=>True,fun ps=>[.bool (zCw (nth (nth ps 0).A 0).L (nth (nth ps 0).A 1).L (nth (nth ps 0).A 2).L (nth (nth ps 0).A 3).L)],fun _=>[]⟩
theorem zBi:zh Tryz.prog 75 zI:=by
 refine zP [0,1,2,3,4,5,6,7,8,9,36,37,38] [.tmp 2] (zA (cs:=[123]) yU (zA (cs:=[120]) yV (zA (cs:=[]) zGC (zA (cs:=[]) zEh (zA (cs:=[]) zEI (zA (cs:=[]) zHa (zA (cs:=[]) zA9 (zD (zB []))))))))) mixed Tryz.func75 rfl (by decide) rfl (by decide) rfl ?_
 intro ps hT hpre W hW
 simp only[zI,TyA,Ty,Tys] at hT hpre
 obtain⟨_,_,rfl,⟨_,rfl,_,_,rfl,⟨ns,rfl,hns,tns⟩,_,_,rfl,⟨ss,rfl,hss,tss⟩,_,_,rfl,⟨ws,rfl,hws,tws⟩,_,_,rfl,⟨ds,rfl,hds,tds⟩,rfl⟩,rfl⟩:=hT
 refine hW.vc [] _ _ ?_
 simp[-List.getD_eq_getElem?_getD,zI,zT,zo,zW,zAE,yS,zO,zN]
 refine fun _ _ _ _=>⟨fun h1=>zFd h1,fun h1 h2 h3 h4 _=>?_⟩
 have hC:=zGU h1 h2 h3 h4
 refine hW.loopS _ _ _ [.sl 38 .dp (.int .i64)] (fun ys=>∃i:Nat,ys=[.int .i64 i]∧i≤ns.length∧nsB ns.length 0 ns ss=nsB ns.length i (ns.drop i) (ss.drop i)) (fun ys=>ns.length - (nth ys 0).I.toNat) ?_ ?_
 ·simp[-List.getD_eq_getElem?_getD,zI,zT,zo,zW,zAE,yS,zO,zN]
  exact⟨0,rfl,by simp,by simp⟩
 ·rintro ys ⟨i,rfl,h5,h6⟩
  refine hW.vc [] _ _ ?_
  simp[-List.getD_eq_getElem?_getD,zI,zT,zo,zW,zAE,yS,zO,zN,zF3]
  refine⟨fun h7=>⟨h7,?_⟩,fun h7=>?_⟩
  ·have h8:i < ss.length:=by omega
   rw[zH4 h7 h8] at h6
   intros
   refine⟨h8,?_⟩
   intros
   refine⟨fun q=>zCt (by rw[h6,zVB q,Bool.false_and]),fun q1 q2 q3 q4 q5=>?_⟩
   rw[zOT q1 q2 q3 q4 q5] at h6
   have hl:(nth (nth ss i).A 0).S.length≤60000:=by
    simp only[zDz,Bool.and_eq_true,leB,decide_eq_true_eq] at q4
    omega
   refine⟨by omega,fun q=>⟨q,by decide +kernel⟩,fun q=>zCt (by rw[h6,zR0 q,Bool.false_and]),fun r1 r2 r3 r4 r5 r6=>?_⟩
   rw[zRz r1 r2 r3 r4 r5 r6,Bool.true_and] at h6
   rw[zC (by omega)]
   exact⟨⟨i+1,by omega,by omega,h6⟩,by omega⟩
  ·rw[List.drop_eq_nil_of_le h7] at h6
   rw[hC,h6,zIj]
   rfl
theorem zVA{cnt:Int}{i:Nat}{n s:PV}(h:(((¬(nth n.A 0).I=i∨¬(nth n.A 1).I=cnt)∨zB9 (z8 n.A)=false)∨zDz (nth s.A 0).S (nth s.A 1).I=false)∨¬(nth s.A 1).I=(nth s.A 0).S.length):atB cnt i n s=false:=by
 refine zVB ?_
 rcases h with (((h | h) | h) | h) | h
 ·exact .inl (.inl (.inl (.inr h)))
 ·exact .inl (.inl (.inr h))
 ·exact .inl (.inl (.inl (.inl h)))
 ·exact .inl (.inr h)
 ·exact .inr h
theorem zMO{b:List UInt8}(h:(yP b).2.2=0)(h2:(yP b).2.1.2=b.length):(yP b).2.1.1=b:=by
 unfold yP at h h2 ⊢
 split at h
 ·simp at h
 ·rename_i h8
  rw[if_neg h8] at h2 ⊢
  split at h
  ·rename_i h9
   rw[if_pos h9] at h2 ⊢
   simp only at h2 ⊢
   exact List.take_of_length_le (by omega)
  ·simp at h
theorem zUX{n s:PV}(h5:(nth s.A 1).I=(nth s.A 0).S.length)(h:(¬(zEO (nth s.A 0).S (nth s.A 1).I).2.2=0∨¬(zEO (nth s.A 0).S (nth s.A 1).I).2.1.2=(nth s.A 1).I)∨(decide ((zEO (nth s.A 0).S (nth s.A 1).I).1.t=(nth n.A 2).I)=false∨decide ((zEO (nth s.A 0).S (nth s.A 1).I).1.v=(nth n.A 3).I)=false)∨eqL ze (zEO (nth s.A 0).S (nth s.A 1).I).1.log (nth n.A 6).L=false):rcB n s=false:=by
 by_cases hc:(yP (nth s.A 0).S).2.2=0
 ·rw[zRy _ hc] at h
  refine zR0 ?_
  rcases h with (h | h) | (h | h) | h
  ·exact .inl (.inl (.inl (.inl h)))
  ·exact .inl (.inl (.inl (.inr (.inr h))))
  ·exact .inl (.inl (.inr (of_decide_eq_false h)))
  ·exact .inl (.inr (of_decide_eq_false h))
  ·exact .inr h
 ·exact zR0 (.inl (.inl (.inl (.inl hc))))
theorem zbM{n s:PV}(h5:(nth s.A 1).I=(nth s.A 0).S.length)(h1:(zEO (nth s.A 0).S (nth s.A 1).I).2.2=0)(h2:(zEO (nth s.A 0).S (nth s.A 1).I).2.1.2=(nth s.A 1).I)(h3:decide ((zEO (nth s.A 0).S (nth s.A 1).I).1.t=(nth n.A 2).I)=true)(h4:decide ((zEO (nth s.A 0).S (nth s.A 1).I).1.v=(nth n.A 3).I)=true)(h6:eqL ze (zEO (nth s.A 0).S (nth s.A 1).I).1.log (nth n.A 6).L=true):rcB n s=true:=by
 have hc:(yP (nth s.A 0).S).2.2=0:=by rw[zKH] at h1;exact h1
 rw[zRy _ hc] at h2 h3 h4 h6
 exact zRz hc (zMO hc (by rw[h2,h5])) h2 (of_decide_eq_true h3) (of_decide_eq_true h4) h6
end
section
variable [zS]
theorem zIW(a:PV):ze a a=true:=by simp[ze,zEP]
theorem zIX:∀es:List PV,eqL ze es es=true
 | []=>rfl
 | e :: es=>by rw[eqL,zIW,zIX es];rfl
theorem zEp:∀{es fs:List PV},(∀e∈es,isE e)→(∀e∈fs,isE e)→eqL ze es fs=true→es=fs
 | [],[],_,_,_=>rfl
 | [],_ :: _,_,_,h=>by simp[eqL] at h
 | _ :: _,[],_,_,h=>by simp[eqL] at h
 | a :: es,b :: fs,h1,h2,h=>by
  rw[eqL,Bool.and_eq_true] at h
  rw[zQQ (h1 a (by simp)) (h2 b (by simp)) h.1,zEp (fun e he=>h1 e (by simp[he])) (fun e he=>h2 e (by simp[he])) h.2]
theorem zMm{b:List UInt8}{s:ST}(h:zGk b s):yP b=(s,(b,(b.length:Int)),0):=by
 have:=zPm h 0
 rwa[List.take_of_length_le] at this
 have:=zOL b.length 0 0
 obtain⟨n,_,e⟩:=this
 simp only[Nat.add_zero] at e
 omega
theorem zH5{cnt:Int}:∀{ns ss:List PV} {i:Nat},ss.length=ns.length→(∀j,j < ns.length→atB cnt (i+j) (nth ns j) (nth ss j)=true)→nsB cnt i ns ss=true
 | [],_,_,_,_=>by simp[nsB]
 | n :: ns,[],_,h,_=>by simp at h
 | n :: ns,s :: ss,i,h,ha=>by
  rw[nsB,show atB cnt i n s=true from ha 0 (by simp),Bool.true_and]
  refine zH5 (by simpa using h) fun j hj=>?_
  have:=ha (j+1) (by simpa using hj)
  rw[zF,zF] at this
  rw[show i+1+j=i+(j+1) by omega]
  exact this
theorem zEe{cnt:Int}:∀{ns ss:List PV} {i:Nat},ss.length=ns.length→nsB cnt i ns ss=true→∀j,j < ns.length→atB cnt (i+j) (nth ns j) (nth ss j)=true
 | [],_,_,_,_,j,hj=>by simp at hj
 | n :: ns,[],_,h,_,_,_=>by simp at h
 | n :: ns,s :: ss,i,h,ha,j,hj=>by
  rw[nsB,Bool.and_eq_true] at ha
  cases j with
  | zero=>exact ha.1
  | succ j=>
   have:=zEe (by simpa using h) ha.2 j (by simpa using hj)
   rw[zF,zF,show i+(j+1)=i+1+j by omega]
   exact this
theorem zUc{cnt:Int}{e:PV}(h:mgV cnt e):mgX cnt e=false:=by
 obtain⟨m,rfl,m2,m3,m4,_⟩:=h
 refine(?_:mgX cnt m.pv=false)
 have a2:decide (cnt≤m.frm)=false:=decide_eq_false (by omega)
 have a3:decide (cnt≤m.to)=false:=decide_eq_false (by omega)
 rw[mgX,zMS,m2,a2,a3];rfl
theorem ClI.ok{c:CL}(h:ClI c):zCw c.ns c.ss c.ws c.ds=true:=by
 have n1:=h.n1;have n5:=h.n5;have sl:=h.sl;have wl:=h.wl;have dl:=h.dl
 have hN:nsB c.ns.length 0 c.ns c.ss=true:=zH5 sl fun j hj=>by
  obtain⟨x,b,h1,h2,h3⟩:=h.nd j hj
  rw[h1,h2,Nat.zero_add]
  have hR:=zMm h3.h
  have l:=h3.l
  have hst:zDz b b.length=true:=by
   simp only[zDz,Bool.and_eq_true,leB,zk,decide_eq_true_eq]
   omega
  have e1:(nth (sto b b.length).A 0).S=b:=rfl
  have e2:(nth (sto b b.length).A 1).I=b.length:=rfl
  have hr:rcB x.pv (sto b b.length)=true:=by
   refine zRz ?_ ?_ ?_ ?_ ?_ ?_<;>rw[e1,hR]
   ·rfl
   ·rfl
   ·rfl
   ·exact zIX _
  rw[←hr]
  exact zOT (zIo h3.F) h3.id h3.nds hst rfl
 have hW:(c.ws.any (mgX c.ns.length))=false:=by
  rw[List.any_eq_false]
  intro e he
  rw[zUc (h.wm e he)];simp
 have hD:(c.ds.any fun e=>zAU e.S)=false:=by
  rw[List.any_eq_false]
  intro e he
  obtain⟨d,rfl,hd⟩:=h.dm e he
  simp[zAU,zEW];omega
 rw[zGU (zk.2 (by omega)) (by omega) (by omega) (by omega),hN,hW,hD];rfl
theorem zH2{s:ST}(hs:∀e∈s.log,isE e):∀{rs:List PV},∀e∈(zBK s rs).1.log,isE e:=by
 intro rs
 induction rs generalizing s with
 | nil=>exact hs
 | cons r rs ih=>
  rw[zBK]
  split
  ·refine ih ?_
   unfold zOo
   cases hc:zNs s r.S with
   | none=>simp[ST.no]
   | some o=>
    show ∀e∈o.log,isE e
    unfold zNs at hc
    split at hc
    ·cases hc
    ·unfold zOU at hc
     split at hc
     ·split at hc
      ·cases hc;exact hs
      ·cases hc
     ·split at hc
      ·split at hc
       ·cases hc;exact fun e he=>hs e (List.mem_of_mem_take he)
       ·cases hc
      ·split at hc
       ·split at hc
        ·cases hc
         intro e he
         rcases List.mem_append.1 he with he | he
         ·exact hs e he
         ·exact⟨_,_,List.mem_singleton.1 he⟩
        ·cases hc
       ·cases hc
  ·exact hs
theorem zKY{c:CL}(hT:ClT c)(h:zCw c.ns c.ss c.ws c.ds=true):ClI c:=by
 rw[zCw] at h
 simp only[Bool.and_eq_true,Bool.not_eq_true',zk,leB,decide_eq_true_eq] at h
 obtain⟨⟨⟨⟨⟨h1,h2⟩,h3⟩,h4⟩,h5⟩,h6,h7⟩:=h
 refine⟨by omega,by omega,h2,fun i hi=>?_,by omega,fun e he=>?_,by omega,fun e he=>?_⟩
 ·obtain⟨x,hx,he⟩:=hT.n _ (zb hi)
  obtain⟨b,n,hs⟩:=hT.s _ (zb (by omega:i < c.ss.length))
  have ha:=zEe h2 h5 i hi
  rw[hx,hs,Nat.zero_add] at ha
  rw[atB,Bool.and_eq_true,zK5] at ha
  obtain⟨ha,hr⟩:=ha
  simp only[Bool.and_eq_true,decide_eq_true_eq] at ha
  obtain⟨⟨⟨⟨a1,a2⟩,a3⟩,a4⟩,a5⟩:=ha
  replace a5:n=b.length:=a5
  rw[rcB,zK5] at hr
  simp only[Bool.and_eq_true,decide_eq_true_eq] at hr
  obtain⟨⟨⟨⟨⟨r1,r2⟩,r3⟩,r4⟩,r5⟩,r6⟩:=hr
  replace r1:(yP b).2.2=0:=r1
  replace r3:(yP b).2.1.2=n:=r3
  replace r4:(yP b).1.t=x.term:=r4
  replace r5:(yP b).1.v=x.vote:=r5
  replace r6:eqL ze (yP b).1.log x.log=true:=r6
  subst a5
  have hst:zDz b b.length=true:=a4
  simp only[zDz,Bool.and_eq_true,leB,decide_eq_true_eq] at hst
  refine⟨x,b,hx,hs,zH6 a1,a2,a3,he,by omega,?_⟩
  have hgo:(zBw b).2.1=b.length∧(zBK ST.one (zBw b).1).2=true∧(yP b).1=(zBK ST.one (zBw b).1).1:=by
   unfold yP at r1 r3 ⊢
   split at r1
   ·simp at r1
   ·rename_i h8
    rw[if_neg h8] at r3 ⊢
    split at r1
    ·rename_i h9
     rw[if_pos h9] at r3 ⊢
     have hq:((zBw b).2.1:Int)=b.length:=r3
     exact⟨by omega,h9,rfl⟩
    ·simp at r1
  have hl:(yP b).1.log=x.log:=by
   refine zEp ?_ he r6
   rw[hgo.2.2]
   exact zH2 (by simp[ST.one])
  refine⟨hgo.1,Prod.ext ?_ hgo.2.1⟩
  rw[←hgo.2.2]
  show(yP b).1=zD0 x
  cases hq:(yP b).1 with
  | mk t v l=>rw[hq] at r4 r5 hl;simp only at r4 r5 hl;rw[r4,r5,hl];rfl
 ·obtain⟨m,rfl,hm⟩:=hT.m e he
  have:=List.any_eq_false.1 h6 _ he
  have hX:mgX c.ns.length m.pv=false:=by simpa using this
  rw[mgX,zMS] at hX
  simp only[Bool.or_eq_false_iff,Bool.not_eq_false',decide_eq_false_iff_not] at hX
  exact⟨m,rfl,hX.1.1,by omega,by omega,hm⟩
 ·obtain⟨d,rfl⟩:=hT.d e he
  have:=List.any_eq_false.1 h7 _ he
  exact⟨d,rfl,by simp[zAU,zEW] at this;omega⟩
end
section
variable [zS]
def yM:CL→List PV→CL × List PV
 | c,[]=>(c,[])
 | c,a :: acts=>((yM (zAS c (zDb a.A)).1 acts).1,.int .i64 (zAS c (zDb a.A)).2 :: (yM (zAS c (zDb a.A)).1 acts).2)
theorem zCu:∀{acts bs:List PV} {c:CL},yM c (acts++bs)=((yM (yM c acts).1 bs).1,(yM c acts).2++(yM (yM c acts).1 bs).2)
 | [],bs,c=>by simp[yM]
 | a :: acts,bs,c=>by rw[List.cons_append,yM,zCu];rfl
theorem zEa{acts:List PV}{k:Nat}{c:CL}(h:k < acts.length):yM c (acts.take (k+1))=((zAS (yM c (acts.take k)).1 (zDb (nth acts k).A)).1,(yM c (acts.take k)).2++[.int .i64 (zAS (yM c (acts.take k)).1 (zDb (nth acts k).A)).2]):=by
 rw[zd h,zCu];rfl
theorem zDN:∀{acts:List PV} {c:CL},(yM c acts).2.length=acts.length
 | [],_=>rfl
 | a :: acts,c=>by rw[yM,List.length_cons,zDN,List.length_cons]
theorem zKj:∀{acts:List PV} {c:CL},ClI c→RtI c→ClI (yM c acts).1∧RtI (yM c acts).1∧(yM c acts).1.ns.length=c.ns.length
 | [],c,h,hR=>⟨h,hR,rfl⟩
 | a :: acts,c,h,hR=>by
  obtain⟨h1,h2,h3⟩:=zM8 h hR (zDb a.A)
  obtain⟨q1,q2,q3⟩:=zKj (acts:=acts) h1 h2
  exact⟨q1,q2,q3.trans h3⟩
end
section
variable [zS]
def zXt(e:PV):Prop:=(nth e.A 6).L.length≤1048576∧(nth e.A 10).L.length≤1048576∧(nth e.A 11).L.length≤1048576∧(nth e.A 12).L.length≤1048576
def zFe(v:List PV):Prop:=((nth v 0).L.length≤1048576∧∀e∈(nth v 0).L,zXt e)∧(nth v 1).L.length≤1048576∧((nth v 2).L.length≤1048576∧∀e∈(nth v 2).L,(nth e.A 8).L.length≤1048576)∧(nth v 3).L.length≤1048576
end
section
variable [zS]
theorem Sm.clu{c:CL}(h:Sm c):zFe [.list c.ns,.list c.ss,.list c.ws,.list c.ds]:=by
 have nl:=h.nl;have sl:=h.sl;have wl:=h.wl;have dl:=h.dl
 refine⟨⟨by simp only[zE,zAA];omega,fun e he=>?_⟩,by simp only[zE,zF,zAA];omega,⟨by simp only[zE,zF,zAA];omega,fun e he=>?_⟩,by simp only[zE,zF,zAA];omega⟩
 ·obtain⟨a,b,c,d⟩:=h.n e he
  exact⟨by omega,by omega,by omega,by omega⟩
 ·have:=h.w e he;omega
theorem zH9{x:ND}(h1:x.log.length≤5000)(h2:x.vs.length≤5000)(h3:x.nx.length≤5000)(h4:x.ms.length≤5000):zWR x.pv:=⟨h1,h2,h3,h4⟩
theorem zW1{x:ND}(h:NdF x):zWR x.pv:=by
 have n1:=h.n1;have n5:=h.n5;have l6:=h.l6;have nx:=h.nx;have ms:=h.ms
 have:=zJD h.vo (by omega)
 exact zH9 (by omega) (by omega) (by omega) (by omega)
theorem ClI.sm{c:CL}(h:ClI c):Sm c:=by
 have n5:=h.n5;have sl:=h.sl;have wl:=h.wl;have dl:=h.dl
 refine⟨by omega,fun e he=>?_,by omega,by omega,fun e he=>h.es he,by omega⟩
 obtain⟨i,hi,rfl⟩:=List.getElem_of_mem he
 obtain⟨x,b,h1,_,h3⟩:=h.nd i hi
 have:c.ns[i]=x.pv:=by rw[←h1,zHX hi]
 rw[this]
 exact zW1 h3.F
end
section
variable [zS]
open Go.Lib Go.RowKit
def zCK(es:List PV):Int:=(es.length:Int).tmod 1000
def zEY(slot:Nat)(es:List PV)(S:St):Prop:=
 match lk S.Lp slot with
 | some (.ptr h 0)=>∃t,lk S.A h=some (.box true t [.sl 0,.int .i64 0,.int .i64 (zCK es)])
 | _=>False
def zEG(w:World)(v:Value)(es:List PV)(e:Ending)(w':World):Prop:=
 ∃b t pre post,e=.returned (.pointer (some ⟨b,pre.length,none⟩))∧w.heap.size≤b∧w'.heap[b]?=some (.cells (pre++[v,.int .i64 0,.int .i64 (zCK es)]++post).toArray t (0,0))∧Fr w [] w'
theorem zHw{P:Program}{E:Env}{fid:FuncId}{fn:Func}{c:Code}{es:List PV}(keep:List Nat)(slot:Nat)(hE:zGf P E)(hm:P.follows .mixedOrders=true)(hf:P.funcs[fid]?=some fn)(hb:fn.body=some c)
  (hr:fn.results=[ResultVar.tmp slot].toArray) (hp:1≤fn.ntmps) (hkeep:keep.contains 0=true)
  (h:∀W,zNn E fn.ntmps keep 1 (zEY slot es) W→W [.code c] ⟨[(0,.sl 0)],[],[(0,.arr (.vw []) (.int .u8) es .no)],1⟩) :
  ∀(w:World) (v:Value) (f:List Nat),Lv w [.list (.int .u8)] [.list es] [v] f→zWA w []→Calls P fid #[v] w fun e w'=>zEG w v es e w':=by
 intro w v f hL hgl
 have hA:zDt w [(.rd,.list (.int .u8))] [.list es] [v] f f []:=by
  have:=zDt.rd (show zY3 w (.list (.int .u8)) (.list es) v f f from ⟨hL,rfl⟩) zDt.nil
  simpa using this
 have h0:yO w.heap.size [] (f++[]) [] (fun _=>⟨Value.bool false,[],[]⟩) (fun _=>[]) w:=
  ⟨fun _=>rfl,fun _ _ h=>(by cases h),fun _ _ h=>(by cases h),fun _ _ h=>(by cases h),fun _ _ h=>(by cases h),fun _ _ _ _ h=>(by cases h),fun _ _ h=>(by cases h),fun _ _ h=>(by cases h)⟩
 obtain⟨β,ϕ,⟨e1,e2,e3,e4,e5,e6,e7,e8,e9⟩,hold⟩:=zGE [(.rd,.list (.int .u8))] [.list es] [v] f f [] 0 [] _ _ hA h0 (fun i hl h=>(by cases h)) rfl (by simp) (fun b hb=>by simp[hb]) (by simp) (by simp) (fun i hl h=>(by cases h))
 have hv0:(β 0).v=v:=by
  have:=e5
  simp[zAh,zLI,zL1,zEl,zU,SV.vals,SV.val] at this
  exact this
 have e1':yO w.heap.size [] (f++[]) [(0,.arr (.vw []) (.int .u8) es .no)] β ϕ w:=e1
 have e2':Bd 1 β [(0,.arr (.vw []) (.int .u8) es .no)]:=e2
 let C:Cx:=⟨P,E,fn.ntmps,w,[],f++[],keep,1,β,bodyPost P fn (zEG w v es),zEY slot es⟩
 have hfin:∀S a w',At C S a w'→zEY slot es S→a.defers=[]∧∃v',(results fn a.tmps).run P w'=.ok v' w'∧zEG w v es (.returned v') w':=by
  intro S a w' hat hS
  obtain⟨kp,hn,β1,ϕ1,sat,hsame⟩:=hat
  unfold zEY at hS
  split at hS
  ·rename_i h hlk
   obtain⟨t,hbx⟩:=hS
   let g:ResultVar→Sem Value:=fun r=>match r with | .tmp t=>pure (a.tmps.getD t undef) | .cell t ty=>asAddr (a.tmps.getD t undef) >>= fun x=>loadVar ty x
   have hxs:zMW E S [.tmp slot]=some [.ptr h 0]:=by simp[zMW,hlk]
   obtain⟨v1,v2,v3,v4⟩:=zIB hE.ty sat g (fun _=>rfl) (fun _ _=>rfl) hxs
   obtain⟨b,t',hb',hϕ,hblk⟩:=sat.hp.sat _ _ hbx
   have hown:=sat.hp.own _ _ hbx b (by simp[zq,hϕ])
   have hge:w.heap.size≤b:=by
    rcases hown with h | h
    ·cases h
    ·exact h
   refine⟨sat.df,_,zHz hr a.tmps w' g (fun _=>rfl) (fun _ _=>rfl) v1 (by simp[SV.vals_map,v4]),b,t',(β1 h).pre,(β1 h).post,?_,hge,?_,sat.fr⟩
   ·simp[SV.vals,zQ0,SV.val,hb']
   ·have h00:(β1 0).v=v:=by rw[hsame 0 (by show 0 < 1;omega)];exact hv0
    rw[hblk];simp[SV.vals,SV.val,h00]
  ·exact hS.elim
 have hC:C.Ok:=⟨hE,hm,fun S a w' hat hS=>⟨hfin S a w' hat hS,hfin S a w' hat hS⟩,fun c a d v w h=>⟨by have h1:=h.1;cases d<;>exact h1,h.2⟩⟩
 refine calls_of_wp hf hb ?_
 have hW:=h (WP C) (zNB hC)
 refine hW _ w ⟨⟨?_,fun t x h=>(by cases h)⟩,Nat.le_refl _,β,ϕ,⟨rfl,?_,?_,fun t g v h=>(by cases h),e1',e2',Fr.refl _ _,hgl⟩,fun h _=>rfl⟩
 ·intro t v ht
  simp only[lk] at ht
  split at ht
  ·rename_i e;subst e;exact hkeep
  ·cases ht
 ·show(#[v]++Array.replicate (fn.ntmps - (#[v]:Array Value).size) undef).size=fn.ntmps
  simp;omega
 ·intro t x ht
  simp only[lk] at ht
  split at ht
  ·rename_i e
   cases ht
   subst e
   refine⟨?_,by simp[SV.lt],trivial⟩
   show(#[v]++Array.replicate (fn.ntmps - (#[v]:Array Value).size) undef)[0]?=_
   rw[Array.getElem?_append_left (by simp)]
   simp[SV.val,hv0]
  ·cases ht
theorem zUk(es:List PV):∀(w:World) (v:Value) (f:List Nat),Lv w [.list (.int .u8)] [.list es] [v] f→zWA w []→Calls Tryz.prog 80 #[v] w fun e w'=>zEG w v es e w':=by
 refine zHw [0,2] 2 (zD (zB [])) mixed Tryz.func80 rfl rfl (by decide) rfl ?_
 intro W hW
 refine hW.vc [] _ _ ?_
 simp[-List.getD_eq_getElem?_getD,zEY,zCK]
def zUR(N:Nat)(keep:List Nat)(S:St)(o:Oper)(K:St→Prop):Prop:=
 match o.op with
 | .call c=>(match c.callee,c.args.toList with
  | .value f,[x]=>(match S.ev f,S.ev x with
   | some (true,.fn g []),some (true,.sl h)=>(match lk S.A h with
    | some (.arr (.vw _) (.int .u8) es _)=>g=80∧o.guard=none∧zET N keep true o.dst ∧
     K (zJW keep S true o.dst ⟨True,True,.ptr S.n 0,(S.n,.box true 148 [.sl h,.int .i64 0,.int .i64 (zCK es)]) :: S.A,S.n+1⟩)
    | _=>False)
   | _,_=>False)
  | _,_=>False)
 | _=>False
structure zLT (N:Nat) (keep:List Nat) (W:List KI→St→Prop):Prop where
 src:∀(all l:List Oper) (o:Oper) (k:List KI) (S:St),zUR N keep S o (fun S'=>W (.run all l :: k) S')→W (.run all (o :: l) :: k) S
section
variable {C:Cx} {S:St} {a:Act} {w w':World} {o:Oper} {all l:List Oper} {k:List KI}
theorem zHv(hC:C.Ok)(hP:C.P=Tryz.prog):zLT C.N C.keep (WP C):=by
 refine⟨fun all l o k S h a w hat=>?_⟩
 obtain⟨kp,hn,β,ϕ,sat,h0⟩:=hat
 show wpList C.P all.toArray (xt C k) (o :: l) a w
 unfold wpList
 unfold zUR at h
 have hgd:o.guard=none→Region.wanted o (yielded all.toArray a.tmps)=true:=fun hg=>yh (g:=true) (by rw[hg];rfl) sat
 split at h
 ·rename_i c ho
  split at h
  ·rename_i f x hc hargs
   split at h
   ·rename_i g i hf hx
    split at h
    ·rename_i rs es p hl
     obtain⟨rfl,hg,hd,hk⟩:=h
     rw[if_pos (hgd hg)]
     obtain⟨x1,x2⟩:=zi hx sat
     have hxv:=(x2 rfl).1
     have hilt:i < S.n:=x1 rfl
     obtain⟨_,f2⟩:=zi hf sat
     obtain⟨f3,_⟩:=f2 rfl
     have hrun:=zGz (P:=C.P) (w:=w) (ob:=True) (vs:=[.sl i]) ho hc f3 (by rw[hargs];simp[SV.vals,hxv]) (by rw[hP];exact Tryz.func80) (by kernel_rfl) (by kernel_rfl)
     have hLv:Lv w [.list (.int .u8)] [.list es] [(β i).v] (ϕ i):=sat.hp.sat _ _ hl
     refine .inl ?_
     unfold Oper.wp
     rw[hrun,Oper.upon_enter,hP]
     have hcall:=zUk es w (β i).v (ϕ i) hLv (sat.gl.now sat.fr (by simp))
     have harr:(SV.vals β ([SV.sl i]++[])).toArray=#[(β i).v]:=by simp[SV.vals,SV.val]
     rw[harr]
     refine hcall.mono fun e w' he=>?_
     obtain⟨b,t,pre,post,rfl,hge,hblk,hF⟩:=he
     have hold:∀b,b < w.heap.size→w'.heap[b]?=w.heap[b]?:=fun b hb=>hF.block b hb (by simp)
     have hub:upd β S.n ⟨.pointer (some ⟨b,pre.length,none⟩),pre,post⟩ i=β i:=zBS _ _ _ hilt
     have hadd:=sat.hp.addNew (n:=S.n) (hl0:=.box true 148 [.sl i,.int .i64 0,.int .i64 (zCK es)]) (g:=⟨.pointer (some ⟨b,pre.length,none⟩),pre,post⟩) (f:=[b]) (w':=w') sat.hb sat.fr hold rfl
      ⟨b,t,rfl,rfl,by rw[hblk];simp[SV.vals,SV.val,hub]⟩ (by simpa using hge) trivial rfl trivial
     have hfr:Fr C.w0 C.X w':=sat.fr.trans hF (fun x hx=>hx) (by simp)
     show wpList Tryz.prog all.toArray (xt C k) l (a.put o.dst (.pointer (some ⟨b,pre.length,none⟩))) w'
     rw[←hP]
     refine hk _ _ (zBe (v:=.pointer (some ⟨b,pre.length,none⟩)) kp hn sat h0 hd ⟨fun _=>?_,fun h hh=>zBS _ _ _ hh,hadd,zFO sat.hb ?_,?_,?_,Nat.le_succ _,hfr⟩)
     ·simp[SV.val,zA0]
     ·refine⟨⟨Nat.lt_succ_of_lt hilt,trivial,trivial,trivial⟩,trivial,?_,?_,trivial⟩
      ·show inR .i64 0;decide
      ·show inR .i64 (zCK es)
       have:(zCK es) < 1000∧0≤zCK es:=⟨by unfold zCK;exact Int.tmod_lt_of_pos _ (by decide),by unfold zCK;exact Int.tmod_nonneg _ (by omega)⟩
       simp[inR,IntKind.min,IntKind.max,IntKind.signed,IntKind.bits];omega
     ·show SV.lt _ (SV.ptr _ _)
      simp[SV.lt]
     ·exact⟨b,pre.length,by simp[zA0]⟩
    ·exact h.elim
   ·exact h.elim
  ·exact h.elim
 ·exact h.elim
end
theorem sG{N:Nat}{keep:List Nat}(C:Cx)(hC:C.Ok)(hP:C.P=Tryz.prog)(hN:C.N=N)(hk:C.keep=keep):zLT N keep (WP C):=by
 subst hN hk
 exact zHv hC hP
end
section
variable [zS]
def zAa(es:List PV):Prop:=∀e∈es,0≤e.I∧e.I≤255
theorem yd{es:List PV}(h:∀e∈es,∃n,e=.int .u8 n∧inR .u8 n):zAa es:=by
 intro e he
 obtain⟨n,rfl,hn⟩:=h e he
 simpa[inR,IntKind.min,IntKind.max,IntKind.signed,IntKind.bits,PV.I] using hn
def zAp(es:List PV)(s:Src):Int × Src:=
 if s.p+1≤es.length then ((nth es s.p.toNat).I,⟨s.p+1,(s.q*31+(nth es s.p.toNat).I+7).tmod 2147483648⟩)
 else if 3000 < s.p+1 then (0,⟨s.p+1,s.q⟩)
 else (((((s.q*1103515245+12345).tmod 2147483648).tdiv 65536).tmod 256),⟨s.p+1,(s.q*1103515245+12345).tmod 2147483648⟩)
theorem zCY(a b:Int)(ha:0≤a)(hb:0 < b):0≤a.tmod b∧a.tmod b < b:=⟨Int.tmod_nonneg _ ha,Int.tmod_lt_of_pos _ hb⟩
theorem zCJ{es:List PV}{s:Src}{k:Int}(hc:zAa es)(h:z9 s.p s.q k)(hk:1≤k):z9 (zAp es s).2.p (zAp es s).2.q (k - 1)∧0≤(zAp es s).1∧(zAp es s).1≤255:=by
 obtain⟨h1,h2,h3,h4⟩:=h
 unfold zAp
 split
 ·rename_i hl
  have:=hc _ (zb (show s.p.toNat < es.length by omega))
  have:=zCY (s.q*31+(nth es s.p.toNat).I+7) 2147483648 (by omega) (by omega)
  exact⟨⟨by simp only;omega,by simp only;omega,this.1,this.2⟩,by omega,by omega⟩
 ·split
  ·exact⟨⟨by simp only;omega,by simp only;omega,h3,h4⟩,by simp,by simp⟩
  ·have:=zCY (s.q*1103515245+12345) 2147483648 (by omega) (by omega)
   have h5:=zCY (((s.q*1103515245+12345).tmod 2147483648).tdiv 65536) 256 (Int.tdiv_nonneg this.1 (by omega)) (by omega)
   exact⟨⟨by simp only;omega,by simp only;omega,this.1,this.2⟩,h5.1,by simp only;omega⟩
def ye(es:List PV)(s:Src)(n:Int):Int × Src:=
 if n≤1 then (0,s) else if n≤256 then ((zAp es s).1.tmod n,(zAp es s).2)
 else ((((zAp es s).1*65536+(zAp es (zAp es s).2).1*256+(zAp es (zAp es (zAp es s).2).2).1).tmod n),(zAp es (zAp es (zAp es s).2).2).2)
theorem z9.mono{p q k k':Int}(h:z9 p q k)(hk:k'≤k):z9 p q k':=⟨h.1,by have:=h.2.1;omega,h.2.2⟩
theorem zg{es:List PV}{s:Src}{n k:Int}(hc:zAa es)(h:z9 s.p s.q k)(hk:3≤k):z9 (ye es s n).2.p (ye es s n).2.q (k - 3)∧0≤(ye es s n).1∧(1≤n→(ye es s n).1 < n):=by
 obtain⟨a1,a2,a3⟩:=zCJ hc h (by omega)
 unfold ye
 split
 ·exact⟨h.mono (by omega),by simp,by simp only;omega⟩
 ·split
  ·have:=zCY (zAp es s).1 n a2 (by omega)
   exact⟨a1.mono (by omega),this.1,fun _=>this.2⟩
  ·obtain⟨b1,b2,b3⟩:=zCJ hc a1 (by omega)
   obtain⟨c1,c2,c3⟩:=zCJ hc b1 (by omega)
   have:=zCY ((zAp es s).1*65536+(zAp es (zAp es s).2).1*256+(zAp es (zAp es (zAp es s).2).2).1) n (by omega) (by omega)
   exact⟨c1.mono (by omega),this.1,fun _=>this.2⟩
def zB0:zJ:=⟨[(.bs,.box [.list (.int .u8),.int .i64,.int .i64])],[.int .i64],true,fun ps=>z9 (nth (nth ps 0).A 1).I (nth (nth ps 0).A 2).I 1,
 fun ps=>[.int .i64 (zAp (nth (nth ps 0).A 0).L ⟨(nth (nth ps 0).A 1).I,(nth (nth ps 0).A 2).I⟩).1],
 fun ps=>[.agg [.list [],.int .i64 (zAp (nth (nth ps 0).A 0).L ⟨(nth (nth ps 0).A 1).I,(nth (nth ps 0).A 2).I⟩).2.p,.int .i64 (zAp (nth (nth ps 0).A 0).L ⟨(nth (nth ps 0).A 1).I,(nth (nth ps 0).A 2).I⟩).2.q]]⟩
theorem zIG:zh Tryz.prog 170 zB0:=by
 refine zP [0,2] [.tmp 2] (zD (zB [])) mixed Tryz.func170 rfl (by decide) rfl (by decide) rfl ?_
 intro ps hT hpre W hW
 simp only[zB0,TyA,Ty,Tys] at hT hpre
 obtain⟨_,_,rfl,⟨_,rfl,_,_,rfl,⟨es,rfl,hes,tes⟩,_,_,rfl,⟨p,rfl,hp⟩,_,_,rfl,⟨q,rfl,hq⟩,rfl⟩,rfl⟩:=hT
 simp only[zE,zF,zBE,yp] at hpre
 obtain⟨h1,h2,h3,h4⟩:=hpre
 refine hW.vc [(2,[],tkN [0,1,2,3,4,5,6,7,8,9] .done),(3,[23],tkN [0,1,2,3,4,5,6,7,8,9,10,11,12,13,14,15,16,17,18,19,20,21,22] (alS 23 .done)),(4,[],tkN [0,1,2,3,4,5,6,7,8,9,10,11] (alS 12 .done))] _ _ ?_
 simp[-List.getD_eq_getElem?_getD,zB0]
 have hc:=yd ‹_›
 rw[zC (n:=p+1) (by omega),show p+1 - 1=p by omega,zC (n:=p) (by omega),zC (n:=q*31) (by omega),zC (n:=q*1103515245) (by omega),zC (n:=q*1103515245+12345) (by omega)]
 refine⟨by decide +kernel,fun _=>⟨fun h5=>⟨by decide +kernel,⟨by omega,by omega⟩,by omega,fun _=>⟨by decide +kernel,⟨by omega,by omega⟩,by omega,fun _=>?_⟩⟩,fun h5=>⟨fun h6=>?_,fun h6=>?_⟩⟩⟩
 ·have h7:=hc _ (zb (show p.toNat < es.length by omega))
  rw[zC (n:=(nth es p.toNat).I) (by omega),zC (n:=q*31+(nth es p.toNat).I) (by omega),zC (n:=q*31+(nth es p.toNat).I+7) (by omega)]
  simp[zAp,h5]
 ·simp[zAp,h6,show ¬p+1≤(es.length:Int) by omega]
 ·have h7:=zCY (q*1103515245+12345) 2147483648 (by omega) (by omega)
  have h8:=Int.tdiv_nonneg h7.1 (show(0:Int)≤65536 by omega)
  have h9:=Int.tdiv_le_self 65536 h7.1
  rw[zC (n:=((q*1103515245+12345).tmod 2147483648).tdiv 65536) (by omega)]
  simp[zAp,show ¬3000 < p+1 by omega,show ¬p+1≤(es.length:Int) by omega]
def zV:zJ:=⟨[(.bs,.box [.list (.int .u8),.int .i64,.int .i64]),(.rd,.int .i64)],[.int .i64],true,fun ps=>z9 (nth (nth ps 0).A 1).I (nth (nth ps 0).A 2).I 3,
 fun ps=>[.int .i64 (ye (nth (nth ps 0).A 0).L ⟨(nth (nth ps 0).A 1).I,(nth (nth ps 0).A 2).I⟩ (nth ps 1).I).1],
 fun ps=>[.agg [.list [],.int .i64 (ye (nth (nth ps 0).A 0).L ⟨(nth (nth ps 0).A 1).I,(nth (nth ps 0).A 2).I⟩ (nth ps 1).I).2.p,.int .i64 (ye (nth (nth ps 0).A 0).L ⟨(nth (nth ps 0).A 1).I,(nth (nth ps 0).A 2).I⟩ (nth ps 1).I).2.q]]⟩
theorem zAq:zh Tryz.prog 128 zV:=by
 refine zP [0,1,4,5,6,7] [.tmp 4] (zA (cs:=[]) zIG (zD (zB []))) mixed Tryz.func128 rfl (by decide) rfl (by decide) rfl ?_
 intro ps hT hpre W hW
 simp only[zV,TyA,Ty,Tys] at hT hpre
 obtain⟨_,_,rfl,⟨_,rfl,_,_,rfl,⟨es,rfl,hes,tes⟩,_,_,rfl,⟨p,rfl,hp⟩,_,_,rfl,⟨q,rfl,hq⟩,rfl⟩,_,_,rfl,⟨n,rfl,hn⟩,rfl⟩:=hT
 simp only[zE,zF,zBE,yp] at hpre
 refine hW.vc [] _ _ ?_
 simp[-List.getD_eq_getElem?_getD,zV,zB0]
 have hc:=yd ‹_›
 have hb:=zCJ (s:=⟨p,q⟩) hc hpre (by omega)
 have hb2:=zCJ hc hb.1 (by omega)
 have hb3:=zCJ hc hb2.1 (by omega)
 refine⟨fun h=>by simp[ye,h],fun h=>⟨fun h2=>⟨hpre.mono (by omega),by omega,by simp[ye,h2,show ¬n≤1 by omega]⟩,fun h2=>⟨hpre.mono (by omega),hb.1.mono (by omega),hb2.1.mono (by omega),by omega,?_⟩⟩⟩
 rw[zC (n:=(zAp es ⟨p,q⟩).1*65536) (by omega),zC (n:=(zAp es (zAp es ⟨p,q⟩).2).1*256) (by omega),zC (n:=(zAp es ⟨p,q⟩).1*65536+(zAp es (zAp es ⟨p,q⟩).2).1*256) (by omega),zC (n:=(zAp es ⟨p,q⟩).1*65536+(zAp es (zAp es ⟨p,q⟩).2).1*256+(zAp es (zAp es (zAp es ⟨p,q⟩).2).2).1) (by omega)]
 simp[ye,show ¬n≤1 by omega,show ¬n≤256 by omega]
end
section
variable [zS]
def zCl(es:List PV)(s:Src)(l:List PV):List UInt8 × Src:=if l.length=0 then ([],s) else ((nth l (ye es s l.length).1.toNat).S,(ye es s l.length).2)
theorem zD3{es:List PV}{s:Src}{l:List PV}{k:Int}(hc:zAa es)(h:z9 s.p s.q k)(hk:3≤k):z9 (zCl es s l).2.p (zCl es s l).2.q (k - 3):=by
 unfold zCl
 split
 ·exact h.mono (by omega)
 ·exact(zg hc h hk).1
def zA2:zJ:=⟨[(.bs,.box [.list (.int .u8),.int .i64,.int .i64]),(.rd,.list .str)],[.str],true,fun ps=>z9 (nth (nth ps 0).A 1).I (nth (nth ps 0).A 2).I 3,fun ps=>[.str (zCl (nth (nth ps 0).A 0).L ⟨(nth (nth ps 0).A 1).I,(nth (nth ps 0).A 2).I⟩ (nth ps 1).L).1],fun ps=>[.agg [.list [],.int .i64 (zCl (nth (nth ps 0).A 0).L ⟨(nth (nth ps 0).A 1).I,(nth (nth ps 0).A 2).I⟩ (nth ps 1).L).2.p,.int .i64 (zCl (nth (nth ps 0).A 0).L ⟨(nth (nth ps 0).A 1).I,(nth (nth ps 0).A 2).I⟩ (nth ps 1).L).2.q]]⟩
theorem zQL:zh Tryz.prog 133 zA2:=by
 refine zP [0,1,4] [.tmp 4] (zA (cs:=[]) zAq (zD (zB []))) mixed Tryz.func133 rfl (by decide) rfl (by decide) rfl ?_
 intro ps hT hpre W hW
 simp only[zA2,TyA,Ty,Tys] at hT hpre
 obtain⟨_,_,rfl,⟨_,rfl,_,_,rfl,⟨es,rfl,hes,tes⟩,_,_,rfl,⟨p,rfl,hp⟩,_,_,rfl,⟨q,rfl,hq⟩,rfl⟩,_,_,rfl,⟨l,rfl,hl,tl⟩,rfl⟩:=hT
 simp only[zE,zF,zBE,yp] at hpre
 refine hW.vc [] _ _ ?_
 simp[-List.getD_eq_getElem?_getD,zA2,zV]
 intro hl1
 have hc:=yd tes
 refine⟨fun h=>by simp[zCl,h],fun h _=>?_⟩
 have h0:0 < l.length:=List.length_pos_iff.2 h
 have hn:=zg (s:=⟨p,q⟩) (n:=l.length) hc hpre (by omega)
 have hn2:=hn.2.2 (by omega)
 exact⟨hpre,⟨hn.2.1,hn2⟩,by omega,fun _=>by simp[zCl,h]⟩
def yD:zJ:=⟨[(.bs,.box [.list (.int .u8),.int .i64,.int .i64]),(.rd,.int .i64)],[.bool],true,fun ps=>z9 (nth (nth ps 0).A 1).I (nth (nth ps 0).A 2).I 3∧1≤(nth ps 1).I∧(nth ps 1).I≤1000000,fun ps=>[.bool ((ye (nth (nth ps 0).A 0).L ⟨(nth (nth ps 0).A 1).I,(nth (nth ps 0).A 2).I⟩ (nth ps 1).I).1 == (nth ps 1).I - 1)],fun ps=>[.agg [.list [],.int .i64 (ye (nth (nth ps 0).A 0).L ⟨(nth (nth ps 0).A 1).I,(nth (nth ps 0).A 2).I⟩ (nth ps 1).I).2.p,.int .i64 (ye (nth (nth ps 0).A 0).L ⟨(nth (nth ps 0).A 1).I,(nth (nth ps 0).A 2).I⟩ (nth ps 1).I).2.q]]⟩
theorem zGB:zh Tryz.prog 130 yD:=by
 refine zP [0,1,4] [.tmp 4] (zA (cs:=[]) zAq (zD (zB []))) mixed Tryz.func130 rfl (by decide) rfl (by decide) rfl ?_
 intro ps hT hpre W hW
 simp only[yD,TyA,Ty,Tys] at hT hpre
 obtain⟨_,_,rfl,⟨_,rfl,_,_,rfl,⟨es,rfl,hes,tes⟩,_,_,rfl,⟨p,rfl,hp⟩,_,_,rfl,⟨q,rfl,hq⟩,rfl⟩,_,_,rfl,⟨n,rfl,hn⟩,rfl⟩:=hT
 simp only[zE,zF,zBE,yp] at hpre
 refine hW.vc [] _ _ ?_
 simp[-List.getD_eq_getElem?_getD,yD,zV]
 exact⟨hpre.1,by rw[zC (by omega)]⟩
end
section
variable [zS]
def dNs(j:Int):Int:=(nth [.int .i64 3,.int .i64 3,.int .i64 5,.int .i64 1] j.toNat).I
theorem zYf{j:Int}(h0:0≤j)(h1:j < 4):1≤dNs j∧dNs j≤5:=by
 have:j=0∨j=1∨j=2∨j=3:=by omega
 rcases this with rfl | rfl | rfl | rfl<;>decide
theorem Gd.mono{n:ND}{t k:Int}(h:Gd n t)(hk:t≤k):Gd n k:=⟨h.F,h.u,h.rt,by have:=h.t;omega⟩
end
section
variable [zS]
def zL:zJ:=⟨[(.rd,.agg [.list (.agg [.int .i64,.int .i64,.int .i64,.int .i64,.int .i64,.bool,.list (.agg [.int .i64,.str]),.int .i64,.int .i64,.int .i64,.list (.int .i64),.list (.int .i64),.list (.int .i64)]),.list (.agg [.str,.int .i64]),.list (.agg [.int .i64,.int .i64,.int .i64,.int .i64,.int .i64,.int .i64,.int .i64,.bool,.list (.agg [.int .i64,.str])]),.list .str])],[.agg [.list (.agg [.int .i64,.int .i64,.int .i64,.int .i64,.int .i64,.bool,.list (.agg [.int .i64,.str]),.int .i64,.int .i64,.int .i64,.list (.int .i64),.list (.int .i64),.list (.int .i64)]),.list (.agg [.str,.int .i64]),.list (.agg [.int .i64,.int .i64,.int .i64,.int .i64,.int .i64,.int .i64,.int .i64,.bool,.list (.agg [.int .i64,.str])]),.list .str]],true,fun ps=>zFe (nth ps 0).A,fun ps=>[nth ps 0],fun _=>[]⟩
end
section
variable [zS]
theorem zP1{n:Int}{e:PV}(h:(mgB (yk e.A)=false∨n≤(nth e.A 2).I)∨n≤(nth e.A 1).I):mgX n e=true:=by
 unfold mgX
 rcases h with (h | h) | h
 ·simp[h]
 ·have:decide (n≤(yk e.A).to)=true:=decide_eq_true h
  simp[this]
 ·have:decide (n≤(yk e.A).frm)=true:=decide_eq_true h
  simp[this]
theorem zMT{n:Int}{e:PV}(h1:mgB (yk e.A)=true)(h2:(nth e.A 2).I < n)(h3:(nth e.A 1).I < n):mgX n e=false:=by
 have a2:decide (n≤(yk e.A).to)=false:=decide_eq_false (by show ¬n≤(nth e.A 2).I;omega)
 have a3:decide (n≤(yk e.A).frm)=false:=decide_eq_false (by show ¬n≤(nth e.A 1).I;omega)
 simp[mgX,h1,a2,a3]
theorem zL6{b y r d:Bool}{n:Int}{e:PV}(hC:b=(!y&&d))(k:y=(mgX n e || r))(h:(mgB (yk e.A)=false∨n≤(nth e.A 2).I)∨n≤(nth e.A 1).I):b=false:=by
 rw[hC,k,zP1 h];rfl
theorem zL7{y r:Bool}{n:Int}{e:PV}(k:y=(mgX n e || r))(h1:mgB (yk e.A)=true)(h2:(nth e.A 2).I < n)(h3:(nth e.A 1).I < n):y=r:=by
 rw[k,zMT h1 h2 h3];rfl
theorem zMu{b y z r:Bool}{e:PV}(hC:b=(!y&&!z))(k:z=(zAU e.S || r))(h:400 < (e.S.length:Int)):b=false:=by
 have:zAU e.S=true:=decide_eq_true (by omega)
 rw[hC,k,this];simp
theorem zMv{z r:Bool}{e:PV}(k:z=(zAU e.S || r))(h:(e.S.length:Int)≤400):z=r:=by
 have:zAU e.S=false:=decide_eq_false (by omega)
 rw[k,this];rfl
theorem zb3{cnt:Int}{i:Nat}{n s:PV}(h:(nth n.A 0).I=i→¬(nth n.A 1).I=cnt):atB cnt i n s=false:=by
 by_cases q:(nth n.A 0).I=i
 ·exact zVA (.inl (.inl (.inl (.inr (h q)))))
 ·exact zVA (.inl (.inl (.inl (.inl q))))
theorem zbL{n s:PV}(h5:(nth s.A 1).I=(nth s.A 0).S.length)(h:(zEO (nth s.A 0).S (nth s.A 1).I).2.2=0→¬(zEO (nth s.A 0).S (nth s.A 1).I).2.1.2=(nth s.A 1).I):rcB n s=false:=by
 by_cases q:(zEO (nth s.A 0).S (nth s.A 1).I).2.2=0
 ·exact zUX h5 (.inl (.inr (h q)))
 ·exact zUX h5 (.inl (.inl q))
def z7:zJ:=zI
set_option maxHeartbeats 0 in
theorem zFa : zh Tryz.prog 70 z7 := by
  refine zP [0, 1, 2, 3, 4, 5, 6, 7, 8, 9, 10] [.tmp 2] (zA (cs := []) zEg (zA (cs := []) zIJ (zA (cs := []) zGs (zA (cs := []) zHJ (zA (cs := []) zIQ (zA (cs := []) zLB (zA (cs := []) zFp (zD (zB []))))))))) mixed Tryz.func70 rfl (by decide) rfl (by decide) rfl ?_
  intro ps hT hpre W hW
  simp only [z7, TyA, Ty, Tys] at hT hpre
  simp only [zI, TyA, Ty, Tys] at hT
  obtain ⟨_, _, rfl, ⟨_, rfl, _, _, rfl, ⟨ns, rfl, hns, tns⟩, _, _, rfl, ⟨ss, rfl, hss, tss⟩, _, _, rfl, ⟨ws, rfl, hws, tws⟩, _, _, rfl, ⟨ds, rfl, hds, tds⟩, rfl⟩, rfl⟩ := hT
  refine hW.vc [(7, [], tkN [0,1,2,3,4,5,6,7,8,9,10,11,12,13,14,15,16,17,18,19,20,21,22,23] (alS 24 (tkN [25,26,27,28,29,30,31,32] (alS 33 (tkN [34,35,36,37,38,39,40,41,42,43,44,45,46,47,48,49,50,51] .done))))), (10, [], tkN [0,1,2,3,4,5,6,7,8,9,10,11,12,13,14,15,16,17,18,19] (alN [20,21] (tkN [22,23] .done)))] _ _ ?_
  simp [-List.getD_eq_getElem?_getD, z7, yC, yl, yY, yE, zc, yX, zr, zI, zo, zW, zY, zT, zI, zo, zW, zY]
  refine fun _ _ _ _ => ⟨fun h1 => zFd h1, fun h1 h2 h3 h4 => ?_⟩
  have hC := zGU h1 h2 h3 h4
  refine hW.loopS _ _ _ [.sl 4 .dp (.int .i64)] (fun ys => ∃ i : Nat, ys = [.int .i64 i] ∧ i ≤ ns.length ∧ nsB ns.length 0 ns ss = nsB ns.length i (ns.drop i) (ss.drop i)) (fun ys => ns.length - (nth ys 0).I.toNat) ?_ ?_
  · simp [-List.getD_eq_getElem?_getD, z7, yC, yl, yY, yE, zc, yX, zr, zI, zo, zW, zY]
    exact ⟨0, rfl, by simp, by simp⟩
  · rintro ys ⟨i, rfl, h5, h6⟩
    refine hW.vc [(7, [], tkN [0,1,2,3,4,5,6,7,8,9,10,11,12,13,14,15,16,17,18,19,20,21,22,23] (alS 24 (tkN [25,26,27,28,29,30,31,32] (alS 33 (tkN [34,35,36,37,38,39,40,41,42,43,44,45,46,47,48,49,50,51] .done))))), (10, [], tkN [0,1,2,3,4,5,6,7,8,9,10,11,12,13,14,15,16,17,18,19] (alN [20,21] (tkN [22,23] .done)))] _ _ ?_
    simp [-List.getD_eq_getElem?_getD, z7, yC, yl, yY, yE, zc, yX, zr, zI, zo, zW, zY, zF3, zT, zI, zo, zW, zY]
    refine ⟨fun h7 => ?_, fun h7 => ?_⟩
    · have h8 : i < ss.length := by omega
      rw [zH4 h7 h8] at h6
      clear hW
      repeat' (first | apply And.intro | intro _)
      all_goals first
        | omega
        | decide +kernel
        | assumption
        | exact zCt (by rw [h6, zVA (by assumption), Bool.false_and])
        | exact zCt (by rw [h6, zb3 (by assumption), Bool.false_and])
        | exact zCt (by rw [h6, zOT (by assumption) (by assumption) (by assumption) (by assumption) (by assumption), zbL (by assumption) (by assumption), Bool.false_and])
        | (have hq : zDz (nth (nth ss i).A 0).S (nth (nth ss i).A 1).I = true := by assumption
           simp only [zDz, Bool.and_eq_true, leB, decide_eq_true_eq] at hq
           omega)
        | exact zCt (by rw [h6, zOT (by assumption) (by assumption) (by assumption) (by assumption) (by assumption), zUX (by assumption) (by assumption), Bool.false_and])
        | (rw [zOT (by assumption) (by assumption) (by assumption) (by assumption) (by assumption), zbM (by assumption) (by assumption) (by assumption) (by assumption) (by assumption) (by assumption), Bool.true_and] at h6
           rw [zC (by omega)]
           exact ⟨i + 1, by omega, by omega, h6⟩)
        | (rw [zC (by omega)];omega)
        | trace_state
    · rw [List.drop_eq_nil_of_le h7] at h6
      have h6 : nsB ns.length 0 ns ss = true := h6
      rw [h6, Bool.true_and] at hC
      refine hW.loopS _ _ _ [.sl 8 .dp (.int .i64)] (fun ys => ∃ j : Nat, ys = [.int .i64 j] ∧ j ≤ ws.length ∧ ws.any (mgX ns.length) = (ws.drop j).any (mgX ns.length)) (fun ys => ws.length - (nth ys 0).I.toNat) ?_ ?_
      · simp [-List.getD_eq_getElem?_getD, z7, yC, yl, yY, yE, zc, yX, zr, zI, zo, zW, zY]
        exact ⟨0, rfl, by simp, by simp⟩
      · rintro ys ⟨j, rfl, k1, k2⟩
        refine hW.vc [(7, [], tkN [0,1,2,3,4,5,6,7,8,9,10,11,12,13,14,15,16,17,18,19,20,21,22,23] (alS 24 (tkN [25,26,27,28,29,30,31,32] (alS 33 (tkN [34,35,36,37,38,39,40,41,42,43,44,45,46,47,48,49,50,51] .done))))), (10, [], tkN [0,1,2,3,4,5,6,7,8,9,10,11,12,13,14,15,16,17,18,19] (alN [20,21] (tkN [22,23] .done)))] _ _ ?_
        simp [-List.getD_eq_getElem?_getD, z7, yC, yl, yY, yE, zc, yX, zr, zI, zo, zW, zY, zT, zI, zo, zW, zY, zRW]
        refine fun _ => ⟨fun k3 => ?_, fun k3 => ?_⟩
        · clear hW
          rw [zG k3, List.any_cons] at k2
          repeat' (first | apply And.intro | intro _)
          all_goals first
            | omega
            | decide +kernel
            | assumption
            | exact zL6 hC k2 (by assumption)
            | (rw [zC (by omega)]
               exact ⟨j + 1, by omega, by omega, zL7 k2 (by assumption) (by assumption) (by assumption)⟩)
            | (rw [zC (by omega)];omega)
            | trace_state
        · refine hW.loopS _ _ _ [.sl 10 .dp (.int .i64)] (fun ys => ∃ j : Nat, ys = [.int .i64 j] ∧ j ≤ ds.length ∧ (ds.any fun e => zAU e.S) = (ds.drop j).any fun e => zAU e.S) (fun ys => ds.length - (nth ys 0).I.toNat) ?_ ?_
          · simp [-List.getD_eq_getElem?_getD, z7, yC, yl, yY, yE, zc, yX, zr, zI, zo, zW, zY]
            exact ⟨0, rfl, by simp, by simp⟩
          · rintro ys ⟨j', rfl, k4, k5⟩
            refine hW.vc [(7, [], tkN [0,1,2,3,4,5,6,7,8,9,10,11,12,13,14,15,16,17,18,19,20,21,22,23] (alS 24 (tkN [25,26,27,28,29,30,31,32] (alS 33 (tkN [34,35,36,37,38,39,40,41,42,43,44,45,46,47,48,49,50,51] .done))))), (10, [], tkN [0,1,2,3,4,5,6,7,8,9,10,11,12,13,14,15,16,17,18,19] (alN [20,21] (tkN [22,23] .done)))] _ _ ?_
            simp [-List.getD_eq_getElem?_getD, z7, yC, yl, yY, yE, zc, yX, zr, zI, zo, zW, zY, zT, zI, zo, zW, zY]
            clear hW
            rw [List.drop_eq_nil_of_le k3] at k2
            refine fun _ => ⟨fun k6 => ?_, fun k6 => ?_⟩
            · rw [zG k6, List.any_cons] at k5
              repeat' (first | apply And.intro | intro _)
              all_goals first
                | omega
                | decide +kernel
                | assumption
                | exact zMu hC k5 (by assumption)
                | (rw [zC (by omega)]
                   exact ⟨j' + 1, by omega, by omega, zMv k5 (by assumption)⟩)
                | (rw [zC (by omega)];omega)
                | trace_state
            · rw [List.drop_eq_nil_of_le k6] at k5
              rw [hC, k2, k5];rfl
end
section
variable [zS]
def ya:zJ:=zL
set_option maxHeartbeats 2000000 in
theorem zG9:zh Tryz.prog 48 ya:=by
 refine zP [0,1,2,3,4,5,6,7] [.cell 2 29] (zA (cs:=[]) zI2 (zD (zB []))) mixed Tryz.func48 rfl (by decide) rfl (by decide) rfl ?_
 intro ps hT hpre W hW
 simp only[ya,TyA,Ty,Tys] at hT hpre
 simp only[zL,TyA,Ty,Tys] at hT hpre
 obtain⟨_,_,rfl,⟨_,rfl,_,_,rfl,⟨ns,rfl,hns,tns⟩,_,_,rfl,⟨ss,rfl,hss,tss⟩,_,_,rfl,⟨ws,rfl,hws,tws⟩,_,_,rfl,⟨ds,rfl,hds,tds⟩,rfl⟩,rfl⟩:=hT
 simp only[zE,zF,zBE,zAA,zFe] at hpre
 obtain⟨⟨p1,p2⟩,p3,⟨p4,p5⟩,p6⟩:=hpre
 refine hW.vc [] _ _ ?_
 simp[-List.getD_eq_getElem?_getD,ya,zAz,zL,zj,zj]
 refine hW.loopS _ _ _ [.sl 3 .dp (.list (.agg [.int .i64,.int .i64,.int .i64,.int .i64,.int .i64,.bool,.list (.agg [.int .i64,.str]),.int .i64,.int .i64,.int .i64,.list (.int .i64),.list (.int .i64),.list (.int .i64)])),.sl 4 .dp (.int .i64)] (fun ys=>∃i:Nat,ys=[.list (ns.take i),.int .i64 i]∧i≤ns.length) (fun ys=>ns.length - (nth ys 1).I.toNat) ?_ ?_
 ·simp[-List.getD_eq_getElem?_getD,ya,zAz,zL,zj]
  exact⟨0,⟨.inl rfl,rfl⟩,by omega⟩
 ·rintro ys ⟨i,rfl,g1⟩
  have w1:IntKind.i64.wrap ((i:Int)+1)=i+1:=zC (by omega)
  refine hW.vc [] _ _ ?_
  simp[-List.getD_eq_getElem?_getD,ya,zAz,zL,zj,zj,w1]
  refine fun _=>⟨fun h=>⟨h,?_⟩,fun h=>⟨by omega,?_⟩⟩
  ·clear hW
   intros
   have hq:=p2 _ (zb h)
   obtain⟨_,he,_,_,rfl,⟨_,rfl,_⟩,_,_,rfl,⟨_,rfl,_⟩,_,_,rfl,⟨_,rfl,_⟩,_,_,rfl,⟨_,rfl,_⟩,_,_,rfl,⟨_,rfl,_⟩,_,_,rfl,⟨_,rfl⟩,_,_,rfl,⟨_,rfl,_,_⟩,_,_,rfl,⟨_,rfl,_⟩,_,_,rfl,⟨_,rfl,_⟩,_,_,rfl,⟨_,rfl,_⟩,_,_,rfl,⟨_,rfl,_,_⟩,_,_,rfl,⟨_,rfl,_,_⟩,_,_,rfl,⟨_,rfl,_,_⟩,rfl⟩:=tns _ (zb h)
   refine⟨hq,by omega,fun _=>⟨⟨i+1,⟨?_,by omega⟩,by omega⟩,by omega⟩⟩
   rw[zd h,he];rfl
  ·rw[List.take_of_length_le h]
   refine hW.loopS _ _ _ [.sl 5 .dp (.list (.agg [.int .i64,.int .i64,.int .i64,.int .i64,.int .i64,.int .i64,.int .i64,.bool,.list (.agg [.int .i64,.str])])),.sl 6 .dp (.int .i64)] (fun ys=>∃i:Nat,ys=[.list (ws.take i),.int .i64 i]∧i≤ws.length) (fun ys=>ws.length - (nth ys 1).I.toNat) ?_ ?_
   ·simp[-List.getD_eq_getElem?_getD,ya,zAz,zL,zj]
    exact⟨0,⟨.inl rfl,rfl⟩,by omega⟩
   ·rintro ys ⟨i,rfl,g1⟩
    have w1:IntKind.i64.wrap ((i:Int)+1)=i+1:=zC (by omega)
    refine hW.vc [] _ _ ?_
    simp[-List.getD_eq_getElem?_getD,ya,zAz,zL,zj,w1]
    refine fun _=>⟨fun h=>⟨h,?_⟩,fun h=>⟨by omega,List.take_of_length_le h⟩⟩
    clear hW
    intros
    have hq:=p5 _ (zb h)
    obtain⟨_,he,_,_,rfl,⟨_,rfl,_⟩,_,_,rfl,⟨_,rfl,_⟩,_,_,rfl,⟨_,rfl,_⟩,_,_,rfl,⟨_,rfl,_⟩,_,_,rfl,⟨_,rfl,_⟩,_,_,rfl,⟨_,rfl,_⟩,_,_,rfl,⟨_,rfl,_⟩,_,_,rfl,⟨_,rfl⟩,_,_,rfl,⟨_,rfl,_,_⟩,rfl⟩:=tws _ (zb h)
    refine⟨by omega,by omega,fun _=>⟨⟨i+1,⟨?_,by omega⟩,by omega⟩,by omega⟩⟩
    rw[zd h,he];rfl
end
section
variable [zS]
theorem zEq{l:List PV}(h:∀e∈l,Ty (.agg [.int .i64,.str]) e):∀e∈l,isE e:=by
 intro e he
 have:=h e he
 simp only[Ty,Tys] at this
 obtain⟨_,rfl,_,_,rfl,⟨n,rfl,_⟩,_,_,rfl,⟨s,rfl,_⟩,rfl⟩:=this
 exact⟨n,s,rfl⟩
theorem zGV{ns ss ws ds:List PV}(h1:∀e∈ns,Ty (.agg [.int .i64,.int .i64,.int .i64,.int .i64,.int .i64,.bool,.list (.agg [.int .i64,.str]),.int .i64,.int .i64,.int .i64,.list (.int .i64),.list (.int .i64),.list (.int .i64)]) e)(h2:∀e∈ss,Ty (.agg [.str,.int .i64]) e)(h3:∀e∈ws,Ty (.agg [.int .i64,.int .i64,.int .i64,.int .i64,.int .i64,.int .i64,.int .i64,.bool,.list (.agg [.int .i64,.str])]) e)(h4:∀e∈ds,Ty .str e):ClT ⟨ns,ss,ws,ds⟩:=by
 refine⟨fun e he=>?_,fun e he=>?_,fun e he=>?_,fun e he=>?_⟩
 ·have:=h1 e he
  simp only[Ty,Tys] at this
  obtain⟨_,he,_,_,rfl,⟨_,rfl,_⟩,_,_,rfl,⟨_,rfl,_⟩,_,_,rfl,⟨_,rfl,_⟩,_,_,rfl,⟨_,rfl,_⟩,_,_,rfl,⟨_,rfl,_⟩,_,_,rfl,⟨_,rfl⟩,_,_,rfl,⟨l,rfl,_,tl⟩,_,_,rfl,⟨_,rfl,_⟩,_,_,rfl,⟨_,rfl,_⟩,_,_,rfl,⟨_,rfl,_⟩,_,_,rfl,⟨_,rfl,_,_⟩,_,_,rfl,⟨_,rfl,_,_⟩,_,_,rfl,⟨_,rfl,_,_⟩,rfl⟩:=this
  refine⟨z8 e.A,by rw[he];rfl,?_⟩
  have e1:(z8 e.A).log=l:=by rw[he];rfl
  rw[e1]
  exact zEq fun a ha=>by simp only[Ty,Tys];exact tl a ha
 ·have:=h2 e he
  simp only[Ty,Tys] at this
  obtain⟨_,rfl,_,_,rfl,⟨b,rfl,_⟩,_,_,rfl,⟨n,rfl,_⟩,rfl⟩:=this
  exact⟨b,n,rfl⟩
 ·have:=h3 e he
  simp only[Ty,Tys] at this
  obtain⟨_,he,_,_,rfl,⟨_,rfl,_⟩,_,_,rfl,⟨_,rfl,_⟩,_,_,rfl,⟨_,rfl,_⟩,_,_,rfl,⟨_,rfl,_⟩,_,_,rfl,⟨_,rfl,_⟩,_,_,rfl,⟨_,rfl,_⟩,_,_,rfl,⟨_,rfl,_⟩,_,_,rfl,⟨_,rfl⟩,_,_,rfl,⟨l,rfl,_,tl⟩,rfl⟩:=this
  refine⟨yk e.A,by rw[he];rfl,?_⟩
  have e1:(yk e.A).es=l:=by rw[he];rfl
  rw[e1]
  exact zEq fun a ha=>by simp only[Ty,Tys];exact tl a ha
 ·have:=h4 e he
  simp only[Ty] at this
  obtain⟨b,rfl,_⟩:=this
  exact⟨b,rfl⟩
def rnR(nodes:Int)(acts:List PV):CL × List PV × Int:=if 4096 < acts.length then (clO,[],2) else cond (inB nodes 1 5) (if 240 < acts.length then (clO,[],6) else ((yM (yR nodes.toNat) acts).1,(yM (yR nodes.toNat) acts).2,0)) (clO,[],4)
def za:zJ:=⟨[(.rd,.int .i64),(.rd,.list (.agg [.int .i64,.int .i64,.int .i64,.int .i64,.str]))],[.agg [.list (.agg [.int .i64,.int .i64,.int .i64,.int .i64,.int .i64,.bool,.list (.agg [.int .i64,.str]),.int .i64,.int .i64,.int .i64,.list (.int .i64),.list (.int .i64),.list (.int .i64)]),.list (.agg [.str,.int .i64]),.list (.agg [.int .i64,.int .i64,.int .i64,.int .i64,.int .i64,.int .i64,.int .i64,.bool,.list (.agg [.int .i64,.str])]),.list .str],.list (.int .i64),.int .i64],true,fun _=>True,fun ps=>[(rnR (nth ps 0).I (nth ps 1).L).1.pv,.list (rnR (nth ps 0).I (nth ps 1).L).2.1,.int .i64 (rnR (nth ps 0).I (nth ps 1).L).2.2],fun _=>[]⟩
theorem zFY{nodes:Int}(h:1≤nodes∧nodes≤5):zCA nodes nodes.toNat=(yR nodes.toNat).ns∧List.replicate nodes.toNat st0=(yR nodes.toNat).ss:=by
 have e:((nodes.toNat:Nat):Int)=nodes:=by omega
 exact⟨by rw[yR,e],rfl⟩
theorem zEN{nodes:Int}(h:1≤nodes∧nodes≤5)(acts:List PV):ClI (yM (yR nodes.toNat) acts).1∧RtI (yM (yR nodes.toNat) acts).1:=by
 obtain⟨a,b⟩:=zK4 (nodes:=nodes.toNat) (by omega) (by omega)
 have:=zKj (acts:=acts) a b
 exact⟨this.1,this.2.1⟩
theorem zGW(e:PV):zDb [.int .i64 (nth e.A 0).I,.int .i64 (nth e.A 1).I,.int .i64 (nth e.A 2).I,.int .i64 (nth e.A 3).I,.str (nth e.A 4).S]=zDb e.A:=rfl
set_option maxHeartbeats 2000000 in
theorem zD8:zh Tryz.prog 14 za:=by
 refine zP [0,1,4,5,6,7,8,10,28,29,30] [.cell 4 29,.tmp 5,.tmp 6] (zA (cs:=[]) zQG (zA (cs:=[]) zEi (zA (cs:=[]) zA9 (zD (zB []))))) mixed Tryz.func14 rfl (by decide) rfl (by decide) rfl ?_
 intro ps hT hpre W hW
 simp only[za,TyA,Ty,Tys] at hT hpre
 obtain⟨_,_,rfl,⟨nodes,rfl,hnodes⟩,_,_,rfl,⟨acts,rfl,hacts,tacts⟩,rfl⟩:=hT
 have r1:4096 < acts.length→rnR nodes acts=(clO,[],2):=fun h=>by rw[rnR,if_pos h]
 have r2:¬4096 < acts.length→inB nodes 1 5=false→rnR nodes acts=(clO,[],4):=fun h h2=>by rw[rnR,if_neg h,h2];rfl
 have r3:¬4096 < acts.length→inB nodes 1 5=true→240 < acts.length→rnR nodes acts=(clO,[],6):=fun h h2 h3=>by rw[rnR,if_neg h,h2,cond_true,if_pos h3]
 have r4:¬4096 < acts.length→inB nodes 1 5=true→¬240 < acts.length→rnR nodes acts=((yM (yR nodes.toNat) acts).1,(yM (yR nodes.toNat) acts).2,0):=fun h h2 h3=>by rw[rnR,if_neg h,h2,cond_true,if_neg h3]
 refine hW.vc [] _ _ ?_
 simp[-List.reduceReplicate,-List.getD_eq_getElem?_getD,za,zT,zH,zFC,CL.pv,zBd]
 refine fun _=>⟨fun h=>?_,fun h=>⟨fun h2=>?_,fun h2 _=>⟨fun h3=>?_,fun h3=>⟨zk.1 h2,fun _=>?_⟩⟩⟩⟩
 ·rw[r1 (by omega)];exact⟨⟨rfl,rfl,rfl,rfl⟩,rfl,rfl⟩
 ·rw[r2 (by omega) h2];exact⟨⟨rfl,rfl,rfl,rfl⟩,rfl,rfl⟩
 ·rw[r3 (by omega) h2 (by omega)];exact⟨⟨rfl,rfl,rfl,rfl⟩,rfl,rfl⟩
 have hn:=zk.1 h2
 have hr:=r4 (by omega) h2 (by omega)
 obtain⟨e1,e2⟩:=zFY hn
 refine hW.loopS _ _ _ [.bx 7 [.list (.agg [.int .i64,.int .i64,.int .i64,.int .i64,.int .i64,.bool,.list (.agg [.int .i64,.str]),.int .i64,.int .i64,.int .i64,.list (.int .i64),.list (.int .i64),.list (.int .i64)]),.list (.agg [.str,.int .i64]),.list (.agg [.int .i64,.int .i64,.int .i64,.int .i64,.int .i64,.int .i64,.int .i64,.bool,.list (.agg [.int .i64,.str])]),.list .str],.sl 8 .dp (.list (.int .i64)),.sl 30 .dp (.int .i64)] (fun ys=>∃k:Nat,ys=[(yM (yR nodes.toNat) (acts.take k)).1.pv,.list (yM (yR nodes.toNat) (acts.take k)).2,.int .i64 k]∧k≤acts.length) (fun ys=>acts.length - (nth ys 2).I.toNat) ?_ ?_
 ·simp[-List.reduceReplicate,-List.getD_eq_getElem?_getD,za,zT,zH,zFC,CL.pv]
  exact⟨0,⟨⟨e1,e2,rfl,rfl⟩,rfl,rfl⟩,by omega⟩
 ·rintro ys ⟨k,rfl,g1⟩
  have w1:IntKind.i64.wrap ((k:Int)+1)=k+1:=zC (by omega)
  have hI:=zEN hn (acts.take k)
  have hl:=zDN (acts:=acts.take k) (c:=yR nodes.toNat)
  obtain⟨q,hq⟩:∃q,q=yM (yR nodes.toNat) (acts.take k):=⟨_,rfl⟩
  rw[←hq] at hI hl ⊢
  obtain⟨⟨ns,ss,ws,ds⟩,cs⟩:=q
  simp only[CL.pv]
  have hl:cs.length=min k acts.length:=by simpa[List.length_take] using hl
  refine hW.vc [] _ _ ?_
  simp[-List.reduceReplicate,-List.getD_eq_getElem?_getD,za,zT,zH,zFC,CL.pv,zBd,zGW,w1]
  refine⟨fun h5=>⟨h5,?_⟩,fun h5=>?_⟩
  ·clear hW
   intros
   have hs:=zEa (acts:=acts) (c:=yR nodes.toNat) h5
   rw[←hq] at hs
   refine⟨hI.1,by omega,fun _=>⟨⟨k+1,?_,by omega⟩,by omega⟩⟩
   rw[hs]
   exact⟨⟨rfl,rfl,rfl,rfl⟩,rfl,by omega⟩
  ·rw[List.take_of_length_le h5] at hq
   rw[hr,←hq]
   exact⟨⟨rfl,rfl,rfl,rfl⟩,rfl,rfl⟩
def zAJ:zJ:=za
set_option maxHeartbeats 2000000 in
theorem zF5:zh Tryz.prog 12 zAJ:=by
 refine zP [0,1,4,5,6,7,8,9,10,11] [.cell 4 29,.tmp 5,.tmp 6] (zA (cs:=[]) zG9 (zA (cs:=[]) zFK (zA (cs:=[]) zF8 (zA (cs:=[]) zFp (zD (zB [])))))) mixed Tryz.func12 rfl (by decide) rfl (by decide) rfl ?_
 intro ps hT hpre W hW
 simp only[zAJ,TyA,Ty,Tys] at hT hpre
 simp only[za,TyA,Ty,Tys] at hT
 obtain⟨_,_,rfl,⟨nodes,rfl,hnodes⟩,_,_,rfl,⟨acts,rfl,hacts,tacts⟩,rfl⟩:=hT
 have r1:4096 < acts.length→rnR nodes acts=(clO,[],2):=fun h=>by rw[rnR,if_pos h]
 have r2:¬4096 < acts.length→inB nodes 1 5=false→rnR nodes acts=(clO,[],4):=fun h h2=>by rw[rnR,if_neg h,h2];rfl
 have r3:¬4096 < acts.length→inB nodes 1 5=true→240 < acts.length→rnR nodes acts=(clO,[],6):=fun h h2 h3=>by rw[rnR,if_neg h,h2,cond_true,if_pos h3]
 have r4:¬4096 < acts.length→inB nodes 1 5=true→¬240 < acts.length→rnR nodes acts=((yM (yR nodes.toNat) acts).1,(yM (yR nodes.toNat) acts).2,0):=fun h h2 h3=>by rw[rnR,if_neg h,h2,cond_true,if_neg h3]
 refine hW.vc [(12,[10],tkN [0,1,2,3,4] (.alt 5 (tkN [6,7] (.alt 8 (alN [9,10,11] .done) (alS 9 (.alt 8 (alN [10,11] .done) (alS 10 (tkN [8] (alS 11 .done))))))) (alN [9,5] (tkN [6,7] (.alt 8 (alN [10,11] .done) (alS 10 (tkN [8] (alS 11 .done))))))))] _ _ ?_
 simp[-List.reduceReplicate,-List.getD_eq_getElem?_getD,zAJ,yC,zv,zw,ya,za,zH,zL,za,zT,zH,CL.pv,zBd]
 refine fun _=>⟨fun h=>?_,fun h=>⟨fun h2=>?_,fun h2 _=>⟨fun h3=>?_,fun h3=>⟨zk.1 h2,?_⟩⟩⟩⟩
 ·rw[r1 (by omega)];exact⟨⟨rfl,rfl,rfl,rfl⟩,rfl,rfl⟩
 ·rw[r2 (by omega) h2];exact⟨⟨rfl,rfl,rfl,rfl⟩,rfl,rfl⟩
 ·rw[r3 (by omega) h2 (by omega)];exact⟨⟨rfl,rfl,rfl,rfl⟩,rfl,rfl⟩
 have hn:=zk.1 h2
 have hr:=r4 (by omega) h2 (by omega)
 obtain⟨e1,e2⟩:=zFY hn
 refine hW.loopS _ _ _ [.fx 7 [.list (.agg [.int .i64,.int .i64,.int .i64,.int .i64,.int .i64,.bool,.list (.agg [.int .i64,.str]),.int .i64,.int .i64,.int .i64,.list (.int .i64),.list (.int .i64),.list (.int .i64)]),.list (.agg [.str,.int .i64]),.list (.agg [.int .i64,.int .i64,.int .i64,.int .i64,.int .i64,.int .i64,.int .i64,.bool,.list (.agg [.int .i64,.str])]),.list .str],.sl 8 .dp (.list (.int .i64)),.sl 9 .dp (.int .i64)] (fun ys=>∃k:Nat,ys=[(yM (yR nodes.toNat) (acts.take k)).1.pv,.list (yM (yR nodes.toNat) (acts.take k)).2,.int .i64 k]∧k≤acts.length) (fun ys=>acts.length - (nth ys 2).I.toNat) ?_ ?_
 ·simp[-List.reduceReplicate,-List.getD_eq_getElem?_getD,zAJ,yC,zv,zw,ya,za,zH,zL,CL.pv]
  exact⟨0,⟨⟨e1,e2,rfl,rfl⟩,rfl,rfl⟩,by omega⟩
 ·rintro ys ⟨k,rfl,g1⟩
  have w1:IntKind.i64.wrap ((k:Int)+1)=k+1:=zC (by omega)
  have hI:=zEN hn (acts.take k)
  have hl:=zDN (acts:=acts.take k) (c:=yR nodes.toNat)
  obtain⟨q,hq⟩:∃q,q=yM (yR nodes.toNat) (acts.take k):=⟨_,rfl⟩
  rw[←hq] at hI hl ⊢
  obtain⟨⟨ns,ss,ws,ds⟩,cs⟩:=q
  simp only[CL.pv]
  have hl:cs.length=min k acts.length:=by simpa[List.length_take] using hl
  refine hW.vc [(12,[10],tkN [0,1,2,3,4] (.alt 5 (tkN [6,7] (.alt 8 (alN [9,10,11] .done) (alS 9 (.alt 8 (alN [10,11] .done) (alS 10 (tkN [8] (alS 11 .done))))))) (alN [9,5] (tkN [6,7] (.alt 8 (alN [10,11] .done) (alS 10 (tkN [8] (alS 11 .done))))))))] _ _ ?_
  simp[-List.reduceReplicate,-List.getD_eq_getElem?_getD,zAJ,yC,zv,zw,ya,za,zH,zL,CL.pv,zBd,zGW,w1,zL]
  refine fun _=>⟨fun h5=>⟨by decide +kernel,h5,?_⟩,fun h5=>?_⟩
  ·clear hW
   intros
   have hs:=zEa (acts:=acts) (c:=yR nodes.toNat) h5
   rw[←hq] at hs
   refine⟨hI.1,by omega,fun _=>⟨⟨k+1,?_,by omega⟩,by omega⟩⟩
   rw[hs]
   exact⟨⟨rfl,rfl,rfl,rfl⟩,rfl,by omega⟩
  ·rw[List.take_of_length_le h5] at hq
   rw[hr,←hq]
   exact⟨hI.1.sm.clu,⟨rfl,rfl,rfl,rfl⟩,rfl,rfl⟩
end
section
variable [zS]
theorem lt5:5 < Tryz.prog.types.size:=of_decide_eq_true (by kernel_rfl)
theorem D5:Dat Tryz.prog 5 false [.int .u8]:=.int Tryz.underlying5 lt5
theorem zba:59 < Tryz.prog.types.size:=of_decide_eq_true (by kernel_rfl)
theorem D59:Dat Tryz.prog 59 false [.list (.int .u8)]:=.slice (e:=5) (g:=false) (l:=[.int .u8]) Tryz.underlying59 D5 (by kernel_rfl) (by decide) (of_decide_eq_true (by kernel_rfl)) zba
end
section
variable [zS]
def zCk:zJ:=zAR
theorem zLe:zh Tryz.prog 42 zCk:=by
 refine zP [0,1,4,5] [.tmp 4] (zD (zB [])) mixed Tryz.func42 rfl (by decide) rfl (by decide) rfl ?_
 intro ps hT hpre W hW
 simp only[zCk,TyA,Ty,Tys] at hT hpre
 simp only[zAR,TyA,Ty,Tys] at hT
 obtain⟨_,_,rfl,⟨es,rfl,hes,tes⟩,_,_,rfl,⟨es2,rfl,hes2,tes2⟩,rfl⟩:=hT
 refine hW.vc [(6,[],tkN [0,1,2,3,4,5,6,7,8] .done)] _ _ ?_
 simp[-List.getD_eq_getElem?_getD,zCk,zAR]
 refine fun h1 h2=>⟨fun h3=>zAX (by omega),fun h3=>?_⟩
 refine hW.loopS _ _ _ [.sl 5 .dp (.int .i64)] (fun ys=>∃i:Nat,ys=[.int .i64 i]∧i≤es.length∧eqL eqB es es2=eqL eqB (es.drop i) (es2.drop i)) (fun ys=>es.length - (nth ys 0).I.toNat) ?_ ?_
 ·simp[-List.getD_eq_getElem?_getD,zCk,zAR]
  exact⟨0,rfl,by simp,by simp⟩
 ·rintro ys ⟨i,rfl,h4,h5⟩
  refine hW.vc [(6,[],tkN [0,1,2,3,4,5,6,7,8] .done)] _ _ ?_
  simp[-List.getD_eq_getElem?_getD,zCk,zAR]
  refine fun _=>⟨fun h6=>⟨by decide +kernel,h6,fun _=>⟨by omega,fun _=>?_⟩⟩,fun h6=>?_⟩
  ·rw[zG h6,zG (by omega:i < es2.length),eqL] at h5
   rw[zC (by omega)]
   refine⟨fun h7=>by rw[h5];simp[eqB,h7],fun h7=>⟨⟨i+1,by omega,by omega,by rw[h5];simp[eqB,h7]⟩,by omega⟩⟩
  ·rw[h5,List.drop_eq_nil_of_le h6,List.drop_eq_nil_of_le (by omega)];rfl
def zAm:zJ:=zm
theorem zIH:zh Tryz.prog 38 zAm:=by
 refine zP [0,1,4,5] [.tmp 4] (zD (zB [])) mixed Tryz.func38 rfl (by decide) rfl (by decide) rfl ?_
 intro ps hT hpre W hW
 simp only[zAm,TyA,Ty,Tys] at hT hpre
 simp only[zm,TyA,Ty,Tys] at hT
 obtain⟨_,_,rfl,⟨es,rfl,hes,tes⟩,_,_,rfl,⟨es2,rfl,hes2,tes2⟩,rfl⟩:=hT
 refine hW.vc [(6,[],tkN [0,1,2,3,4,5,6,7,8] .done)] _ _ ?_
 simp[-List.getD_eq_getElem?_getD,zAm,zm]
 refine fun h1 h2=>⟨fun h3=>zAX (by omega),fun h3=>?_⟩
 refine hW.loopS _ _ _ [.sl 5 .dp (.int .i64)] (fun ys=>∃i:Nat,ys=[.int .i64 i]∧i≤es.length∧eqL ze es es2=eqL ze (es.drop i) (es2.drop i)) (fun ys=>es.length - (nth ys 0).I.toNat) ?_ ?_
 ·simp[-List.getD_eq_getElem?_getD,zAm,zm]
  exact⟨0,rfl,by simp,by simp⟩
 ·rintro ys ⟨i,rfl,h4,h5⟩
  refine hW.vc [(6,[],tkN [0,1,2,3,4,5,6,7,8] .done)] _ _ ?_
  simp[-List.getD_eq_getElem?_getD,zAm,zm]
  refine fun _=>⟨fun h6=>⟨by decide +kernel,h6,fun _ _ _=>⟨by omega,fun _ _ _=>?_⟩⟩,fun h6=>?_⟩
  ·rw[zG h6,zG (by omega:i < es2.length),eqL] at h5
   rw[zC (by omega)]
   refine⟨by decide +kernel,fun h=>?_,fun h h2=>⟨⟨i+1,by omega,by omega,?_⟩,by omega⟩⟩
   ·have e:ze (nth es i) (nth es2 i)=false:=by rcases h with h | h<;>simp[ze,zEP,h]
    rw[h5,e];rfl
   ·have e:ze (nth es i) (nth es2 i)=true:=by simp[ze,zEP,h,h2]
    rw[h5,e,Bool.true_and]
  ·rw[h5,List.drop_eq_nil_of_le h6,List.drop_eq_nil_of_le (by omega)];rfl
def zBp:zJ:=zAH
theorem zN9:zh Tryz.prog 88 zBp:=by
 refine zP [0,1,2,3,4] [.tmp 4] (zA (cs:=[]) zLe (zA (cs:=[]) zIH (zD (zB [])))) mixed Tryz.func88 rfl (by decide) rfl (by decide) rfl ?_
 intro ps hT hpre W hW
 simp only[zBp,TyA,Ty,Tys] at hT hpre
 simp only[zAH,TyA,Ty,Tys] at hT
 obtain⟨_,_,rfl,⟨_,rfl,_,_,rfl,⟨n0,rfl,hn0⟩,_,_,rfl,⟨n1,rfl,hn1⟩,_,_,rfl,⟨n2,rfl,hn2⟩,_,_,rfl,⟨n3,rfl,hn3⟩,_,_,rfl,⟨n4,rfl,hn4⟩,_,_,rfl,⟨u,rfl⟩,_,_,rfl,⟨es,rfl,hes,tes⟩,_,_,rfl,⟨n5,rfl,hn5⟩,_,_,rfl,⟨n6,rfl,hn6⟩,_,_,rfl,⟨n7,rfl,hn7⟩,_,_,rfl,⟨vs,rfl,hvs,tvs⟩,_,_,rfl,⟨xs,rfl,hxs,txs⟩,_,_,rfl,⟨ms,rfl,hms,tms⟩,rfl⟩,_,_,rfl,⟨_,rfl,_,_,rfl,⟨n0',rfl,hn0'⟩,_,_,rfl,⟨n1',rfl,hn1'⟩,_,_,rfl,⟨n2',rfl,hn2'⟩,_,_,rfl,⟨n3',rfl,hn3'⟩,_,_,rfl,⟨n4',rfl,hn4'⟩,_,_,rfl,⟨u',rfl⟩,_,_,rfl,⟨es',rfl,hes',tes'⟩,_,_,rfl,⟨n5',rfl,hn5'⟩,_,_,rfl,⟨n6',rfl,hn6'⟩,_,_,rfl,⟨n7',rfl,hn7'⟩,_,_,rfl,⟨vs',rfl,hvs',tvs'⟩,_,_,rfl,⟨xs',rfl,hxs',txs'⟩,_,_,rfl,⟨ms',rfl,hms',tms'⟩,rfl⟩,rfl⟩:=hT
 refine hW.vc [] _ _ ?_
 simp[-List.getD_eq_getElem?_getD,zBp,zAm,zCk,zAH,zm,zAR,zAR,zm]
 simp only[zNc,zE,zF,yp,zNq,zAA]
 cases u<;>cases u'<;>rfl
def yg:zJ:=zp
theorem zJO:zh Tryz.prog 87 yg:=by
 refine zP [0,1,4,5,6,7] [.tmp 4] (zA (cs:=[]) zIH (zD (zB []))) mixed Tryz.func87 rfl (by decide) rfl (by decide) rfl ?_
 intro ps hT hpre W hW
 simp only[yg,TyA,Ty,Tys] at hT hpre
 simp only[zp,TyA,Ty,Tys] at hT
 obtain⟨_,_,rfl,⟨es,rfl,hes,tes⟩,_,_,rfl,⟨es2,rfl,hes2,tes2⟩,rfl⟩:=hT
 refine hW.vc [] _ _ ?_
 simp[-List.getD_eq_getElem?_getD,yg,zAm,zp,zm,zm]
 refine fun h1 h2=>⟨fun h3=>zAX (by omega),fun h3=>?_⟩
 refine hW.loopS _ _ _ [.sl 5 .dp (.int .i64)] (fun ys=>∃i:Nat,ys=[.int .i64 i]∧i≤es.length∧eqL zDZ es es2=eqL zDZ (es.drop i) (es2.drop i)) (fun ys=>es.length - (nth ys 0).I.toNat) ?_ ?_
 ·simp[-List.getD_eq_getElem?_getD,yg,zAm,zp,zm]
  exact⟨0,rfl,by simp,by simp⟩
 ·rintro ys ⟨i,rfl,h4,h5⟩
  refine hW.vc [] _ _ ?_
  simp[-List.getD_eq_getElem?_getD,yg,zAm,zp,zm,zm]
  refine fun _=>⟨fun h6=>⟨h6,?_⟩,fun h6=>?_⟩
  ·intros
   refine⟨by omega,?_⟩
   intros
   rw[zG h6,zG (by omega:i < es2.length),eqL] at h5
   rw[zC (n:=(i:Int)+1) (by omega)]
   refine⟨fun h=>?_,fun a0 a1 a2 a3 a4 a5 a6 a7 a8=>⟨⟨i+1,by omega,by omega,?_⟩,by omega⟩⟩
   ·have e:zDZ (nth es i) (nth es2 i)=false:=by rcases h with (((((((h | h) | h) | h) | h) | h) | h) | h) | h<;>simp[zDZ,zL3,h]
    rw[h5,e];rfl
   ·have e:zDZ (nth es i) (nth es2 i)=true:=by simp[zDZ,zL3,a0,a1,a2,a3,a4,a5,a6,a7,a8]
    rw[h5,e,Bool.true_and]
  ·rw[h5,List.drop_eq_nil_of_le h6,List.drop_eq_nil_of_le (by omega)];rfl
def zFv(log:List PV):Nat→List PV
 | 0=>[]
 | k+1=>zFv log k++[.str (nth (nth log k).A 1).S]
theorem zI7(log:List PV):∀k,(zFv log k).length=k
 | 0=>rfl
 | k+1=>by simp[zFv,zI7 log k]
def zAG:zJ:=⟨[(.rd,.agg [.int .i64,.int .i64,.int .i64,.int .i64,.int .i64,.bool,.list (.agg [.int .i64,.str]),.int .i64,.int .i64,.int .i64,.list (.int .i64),.list (.int .i64),.list (.int .i64)])],[.list .str],true,fun ps=>0≤(nth (nth ps 0).A 7).I∧(nth (nth ps 0).A 7).I≤(nth (nth ps 0).A 6).L.length∧(nth (nth ps 0).A 6).L.length≤1024,fun ps=>[.list (zFv (nth (nth ps 0).A 6).L (nth (nth ps 0).A 7).I.toNat)],fun _=>[]⟩
theorem zIP:zh Tryz.prog 84 zAG:=by
 refine zP [0,1,2,3,5,10,11,12] [.tmp 2] (zD (zB [])) mixed Tryz.func84 rfl (by decide) rfl (by decide) rfl ?_
 intro ps hT hpre W hW
 simp only[zAG,TyA,Ty,Tys] at hT hpre
 obtain⟨_,_,rfl,⟨_,rfl,_,_,rfl,⟨n0,rfl,hn0⟩,_,_,rfl,⟨n1,rfl,hn1⟩,_,_,rfl,⟨n2,rfl,hn2⟩,_,_,rfl,⟨n3,rfl,hn3⟩,_,_,rfl,⟨n4,rfl,hn4⟩,_,_,rfl,⟨u,rfl⟩,_,_,rfl,⟨es,rfl,hes,tes⟩,_,_,rfl,⟨n5,rfl,hn5⟩,_,_,rfl,⟨n6,rfl,hn6⟩,_,_,rfl,⟨n7,rfl,hn7⟩,_,_,rfl,⟨vs,rfl,hvs,tvs⟩,_,_,rfl,⟨xs,rfl,hxs,txs⟩,_,_,rfl,⟨ms,rfl,hms,tms⟩,rfl⟩,rfl⟩:=hT
 simp only[zE,zF,yp,zAA,zBE] at hpre
 refine hW.vc [] _ _ ?_
 simp[-List.getD_eq_getElem?_getD,zAG]
 refine⟨⟨hpre.1,hpre.2.1⟩,fun _ _=>?_⟩
 have hmn:min n5.toNat es.length=n5.toNat:=by omega
 rw[hmn]
 refine hW.loopS _ _ _ [.sl 3 .dp (.list .str),.sl 12 .dp (.int .i64)] (fun ys=>∃i:Nat,ys=[.list (zFv es i),.int .i64 i]∧i≤n5.toNat) (fun ys=>n5.toNat - (nth ys 1).I.toNat) ?_ ?_
 ·simp[-List.getD_eq_getElem?_getD,zAG]
  exact⟨0,⟨rfl,rfl⟩,by omega⟩
 ·rintro ys ⟨i,rfl,g1⟩
  refine hW.vc [] _ _ ?_
  simp[-List.getD_eq_getElem?_getD,zAG]
  rw[zC (n:=(i:Int)+1) (by omega)]
  refine⟨fun h=>⟨by omega,fun _ _ _=>⟨by rw[zI7];omega,fun _=>⟨⟨i+1,⟨?_,rfl⟩,by omega⟩,by omega⟩⟩⟩,fun h=>?_⟩
  ·have e:nth (List.take n5.toNat es) i=nth es i:=by simp[nth,List.getElem?_take,show i < n5.toNat by omega]
   rw[zFv,e]
  ·have:i=n5.toNat:=by omega
   rw[this]
end
section
variable [zS]
def vcG(E:Env)(N:Nat)(keep:List Nat)(all:List Oper)(K:St→Prop):List Oper→St→Prop
 | [],S=>K S
 | o :: l,S=>match o.guard with
  | none=>(match zHH E S true o with
   | none=>False
   | some R=>R.ob∧zET N keep true o.dst∧(R.hy→vcG E N keep all K l (zJW keep S true o.dst R)))
  | some q=>match zGI S all (some q) with
   | none=>False
   | some g=>if g=true then (match zHH E S true o with
     | none=>False
     | some R=>R.ob∧zET N keep true o.dst∧(R.hy→vcG E N keep all K l (zJW keep S true o.dst R)))
    else zET N keep false o.dst∧vcG E N keep all K l (zJW keep S false o.dst (zRu S))
section
variable {C:Cx} {S:St} {k:List KI} {all:List Oper} {E:Env} {K:St→Prop}
theorem zC2(hC:C.Ok)(hE:zGf C.P E)(hK:∀S,K S→WP C k S):∀(l:List Oper) (S:St),vcG E C.N C.keep all K l S→WP C (.run all l :: k) S
 | [],S,h=>hK S h
 | o :: l,S,h=>by
  intro a w hat
  let C0:Cx:={ C with E:=E }
  have hC0:C0.Ok:=⟨hE,hC.mix,hC.fin,hC.pan⟩
  have hT:∀{S:St},zGI S all o.guard=some true→At C S a w→(match zHH E S true o with
     | none=>False
     | some R=>R.ob∧zET C.N C.keep true o.dst∧(R.hy→vcG E C.N C.keep all K l (zJW C.keep S true o.dst R)))→wpList C.P all.toArray (xt C k) (o :: l) a w:=by
   intro S hg hat h1
   obtain⟨kp,hn,β,ϕ,sat,h0⟩:=hat
   have hgs:=yh hg sat
   unfold wpList
   split at h1
   ·exact h1.elim
   ·rename_i R hR
    obtain⟨hob,hd,hrest⟩:=h1
    rw[if_pos hgs]
    obtain⟨hhy,hwp⟩:=zIy hC0.env hR sat hob
    refine .inl (hwp _ _ fun v w' β' ϕ' hp _=>?_)
    exact zC2 hC hE hK l _ (hrest hhy) _ _ (zBe kp hn sat h0 hd hp)
  show wpList C.P all.toArray (xt C k) (o :: l) a w
  unfold vcG at h
  split at h
  ·rename_i hg
   exact hT (by rw[hg];rfl) hat h
  ·rename_i q hq
   split at h
   ·exact h.elim
   ·rename_i g hg
    rw[←hq] at hg
    cases g with
    | true=>
     rw[if_pos rfl] at h
     exact hT hg hat h
    | false=>
     rw[if_neg (by decide)] at h
     obtain⟨hd,hrest⟩:=h
     obtain⟨kp,hn,β,ϕ,sat,h0⟩:=hat
     have hgs:=yh hg sat
     unfold wpList
     rw[if_neg (by rw[hgs];simp)]
     exact zC2 hC hE hK l _ hrest _ _ (zB8 kp hn sat h0 hd rfl rfl)
structure zQq (E:Env) (N:Nat) (keep:List Nat) (W:List KI→St→Prop):Prop where
 seq:∀(a b:Code) (k:List KI) (S:St),W (.code a :: .code b :: k) S→W (.code (.seq a b) :: k) S
 grd:∀(id:Nat) (ops:Array Oper) (k:List KI) (S:St),vcG E N keep ops.toList (fun S'=>W k S') ops.toList { S with Lt:=[] }→W (.code (.region id ops false) :: k) S
theorem gG{E:Env}{N:Nat}{keep:List Nat}(hE:zGf Tryz.prog E)(C:Cx)(hC:C.Ok)(hP:C.P=Tryz.prog)(hN:C.N=N)(hk:C.keep=keep):zQq E N keep (WP C):=by
 subst hN hk
 refine⟨fun _ _ k S h a w hat=>wp_seq (h a w hat),fun id ops k S h a w hat=>?_⟩
 have h1:=zC2 (K:=fun S'=>WP C k S') hC (by rw[hP];exact hE) (fun S hS=>hS) ops.toList _ h a w (zT1 hat)
 refine wp_region_list ?_
 have h2:wpList C.P ops.toList.toArray (xt C k) ops.toList a w:=h1
 simpa using h2
end
end
section
variable [zS]
def zAv:zJ:=zM
theorem zI3:zh Tryz.prog 134 zAv:=by
 refine zP [0,1,4,5,12,13] [.tmp 4] (zD (zB [])) mixed Tryz.func134 rfl (by decide) rfl (by decide) rfl ?_
 intro ps hT hpre W hW
 simp only[zAv,TyA,Ty,Tys] at hT hpre
 simp only[zM,TyA,Ty,Tys] at hT
 obtain⟨_,_,rfl,⟨es,rfl,hes,tes⟩,_,_,rfl,⟨fs,rfl,hfs,tfs⟩,rfl⟩:=hT
 refine hW.vc [(6,[],tkN [0,1,2,3,4,5,6,7,8] .done)] _ _ ?_
 simp[-List.getD_eq_getElem?_getD,zAv,zM,zM]
 refine fun _ _=>⟨fun h3=>zAX (by omega),fun h3 _=>?_⟩
 refine hW.loopS _ _ _ [.sl 13 .dp (.int .i64)] (fun ys=>∃i:Nat,ys=[.int .i64 i]∧i≤es.length∧eqL (fun x y=>x.S == y.S) es fs=eqL (fun x y=>x.S == y.S) (es.drop i) (fs.drop i)) (fun ys=>es.length - (nth ys 0).I.toNat) ?_ ?_
 ·simp[-List.getD_eq_getElem?_getD,zAv,zM]
  exact⟨0,rfl,by omega,by simp⟩
 ·rintro ys ⟨i,rfl,h4,h5⟩
  refine hW.vc [(6,[],tkN [0,1,2,3,4,5,6,7,8] .done)] _ _ ?_
  simp[-List.getD_eq_getElem?_getD,zAv,zM]
  refine⟨fun h6=>⟨by decide +kernel,h6,fun _=>⟨by omega,fun _=>?_⟩⟩,fun h6=>?_⟩
  ·rw[zG h6,zG (by omega:i < fs.length),eqL] at h5
   rw[zC (by omega)]
   refine⟨fun h7=>by rw[h5];simp[h7],fun h7=>⟨⟨i+1,by omega,by omega,by rw[h5];simp[h7]⟩,by omega⟩⟩
  ·rw[h5,List.drop_eq_nil_of_le h6,List.drop_eq_nil_of_le (by omega)];rfl
def yF:zJ:=zM
theorem zD7:zh Tryz.prog 43 yF:=by
 refine zP [0,1,4,5] [.tmp 4] (zD (zB [])) mixed Tryz.func43 rfl (by decide) rfl (by decide) rfl ?_
 intro ps hT hpre W hW
 simp only[yF,TyA,Ty,Tys] at hT hpre
 simp only[zM,TyA,Ty,Tys] at hT
 obtain⟨_,_,rfl,⟨es,rfl,hes,tes⟩,_,_,rfl,⟨es2,rfl,hes2,tes2⟩,rfl⟩:=hT
 refine hW.vc [(6,[],tkN [0,1,2,3,4,5,6,7,8] .done)] _ _ ?_
 simp[-List.getD_eq_getElem?_getD,yF,zM,zM]
 refine fun h1 h2=>⟨fun h3=>zAX (by omega),fun h3=>?_⟩
 refine hW.loopS _ _ _ [.sl 5 .dp (.int .i64)] (fun ys=>∃i:Nat,ys=[.int .i64 i]∧i≤es.length∧eqL (fun x y=>x.S == y.S) es es2=eqL (fun x y=>x.S == y.S) (es.drop i) (es2.drop i)) (fun ys=>es.length - (nth ys 0).I.toNat) ?_ ?_
 ·simp[-List.getD_eq_getElem?_getD,yF,zM]
  exact⟨0,rfl,by simp,by simp⟩
 ·rintro ys ⟨i,rfl,h4,h5⟩
  refine hW.vc [(6,[],tkN [0,1,2,3,4,5,6,7,8] .done)] _ _ ?_
  simp[-List.getD_eq_getElem?_getD,yF,zM]
  refine fun _=>⟨fun h6=>⟨by decide +kernel,h6,fun _=>⟨by omega,fun _=>?_⟩⟩,fun h6=>?_⟩
  ·rw[zG h6,zG (by omega:i < es2.length),eqL] at h5
   rw[zC (by omega)]
   refine⟨fun h7=>by rw[h5];simp[h7],fun h7=>⟨⟨i+1,by omega,by omega,by rw[h5];simp[h7]⟩,by omega⟩⟩
  ·rw[h5,List.drop_eq_nil_of_le h6,List.drop_eq_nil_of_le (by omega)];rfl
def zF0(a b:List PV):Bool:=decide (a.length≤b.length)&&eqL (fun x y=>x.S == y.S) a (b.take a.length)
theorem zOq{a b:List PV}(h:a.length≤b.length):zF0 a b=eqL (fun x y=>x.S == y.S) a (b.take a.length):=by simp[zF0,h]
theorem zTA{a b:List PV}(h:¬a.length≤b.length):zF0 a b=false:=by simp[zF0,h]
theorem zFF(a b:List PV):zF0 a (a++b)=true:=by
 rw[zOq (by simp),List.take_left' rfl];exact zKV a
def z5:zJ:=⟨[(.rd,.list .str),(.rd,.list .str)],[.bool],true,fun _=>True,fun ps=>[.bool (zF0 (nth ps 0).L (nth ps 1).L)],fun _=>[]⟩
def ym:zJ:=z5
theorem zJj:zh Tryz.prog 83 ym:=by
 refine zIU [0,1,4] [.tmp 4] _ (gG (zA (cs:=[]) zI3 (zD (zB [])))) (zA (cs:=[]) zI3 (zD (zB []))) mixed Tryz.func83 rfl (by decide) rfl (by decide) rfl ?_
 intro ps hT hpre W hW hB
 simp only[ym,TyA,Ty,Tys] at hT hpre
 simp only[z5,TyA,Ty,Tys] at hT
 obtain⟨_,_,rfl,⟨es,rfl,hes,tes⟩,_,_,rfl,⟨fs,rfl,hfs,tfs⟩,rfl⟩:=hT
 refine hB.seq _ _ _ _ ?_
 refine hB.grd _ _ _ _ ?_
 simp[vcG,-List.getD_eq_getElem?_getD,ym,zAv,z5,zM,zM,z5]
 refine hB.seq _ _ _ _ ?_
 refine hB.grd _ _ _ _ ?_
 by_cases h:es.length≤fs.length
 ·simp[vcG,-List.getD_eq_getElem?_getD,ym,zAv,z5,zM,h,zM,z5]
  intros
  refine hW.vc [] _ _ ?_
  simp[-List.getD_eq_getElem?_getD,ym,zAv,z5,zM,h,zM,z5]
  exact(zOq h).symm
 ·simp[vcG,-List.getD_eq_getElem?_getD,ym,zAv,z5,zM,h,zM,z5]
  intros
  refine hW.vc [] _ _ ?_
  simp[-List.getD_eq_getElem?_getD,ym,zAv,z5,zM,h,zM,z5]
  exact zTA h
def zFc(l:List PV):List PV:=l.filter fun e=>!(e.S == [])
theorem zSV{es:List PV}{i:Nat}(h:i < es.length)(hn:¬(nth es i).S=[]):zFc (es.take (i+1))=zFc (es.take i)++[nth es i]:=by
 rw[zd h,zFc,List.filter_append]
 congr 1
 simp[hn]
theorem zSW{es:List PV}{i:Nat}(h:i < es.length)(hn:(nth es i).S=[]):zFc (es.take (i+1))=zFc (es.take i):=by
 rw[zd h,zFc,List.filter_append]
 simp[hn,zFc]
def zCE:zJ:=⟨[(.rd,.list .str)],[.list .str],true,fun ps=>(nth ps 0).L.length≤1048576,fun ps=>[.list (zFc (nth ps 0).L)],fun _=>[]⟩
theorem zSN:zh Tryz.prog 82 zCE:=by
 refine zP [0,2,3,5,6,7,8] [.tmp 2] (zD (zB [])) mixed Tryz.func82 rfl (by decide) rfl (by decide) rfl ?_
 intro ps hT hpre W hW
 simp only[zCE,TyA,Ty,Tys] at hT hpre
 obtain⟨_,_,rfl,⟨es,rfl,hes,tes⟩,rfl⟩:=hT
 simp only[zE,zAA] at hpre
 refine hW.vc [] _ _ ?_
 simp[-List.getD_eq_getElem?_getD,zCE]
 intro _
 refine hW.loopS _ _ _ [.sl 3 .dp (.list .str),.sl 8 .dp (.int .i64)] (fun ys=>∃i:Nat,ys=[.list (zFc (es.take i)),.int .i64 i]∧i≤es.length) (fun ys=>es.length - (nth ys 1).I.toNat) ?_ ?_
 ·simp[-List.getD_eq_getElem?_getD,zCE]
  exact⟨0,⟨rfl,rfl⟩,by omega⟩
 ·rintro ys ⟨i,rfl,g1⟩
  have w1:IntKind.i64.wrap ((i:Int)+1)=i+1:=zC (by omega)
  have hl:(zFc (es.take i)).length≤i:=by
   have:=List.length_filter_le (fun e:PV=>!(e.S == [])) (es.take i)
   have h2:(es.take i).length≤i:=by rw[List.length_take];omega
   exact Nat.le_trans this h2
  refine hW.vc [] _ _ ?_
  simp[-List.getD_eq_getElem?_getD,zCE,w1]
  refine⟨fun h=>⟨h,fun _=>⟨fun h2=>⟨by omega,fun _=>⟨⟨i+1,⟨?_,by omega⟩,by omega⟩,by omega⟩⟩,fun h2=>⟨⟨i+1,⟨(zSW h h2).symm,by omega⟩,by omega⟩,by omega⟩⟩⟩,fun h=>by rw[List.take_of_length_le h]⟩
  rw[zSV h h2]
  obtain⟨_,he,_⟩:=tes _ (zb h)
  rw[he];rfl
def zJz:zJ:=zCE
theorem zX7:zh Tryz.prog 89 zJz:=by
 refine zP [0,2,3,4] [.tmp 2] (zD (zB [])) mixed Tryz.func89 rfl (by decide) rfl (by decide) rfl ?_
 intro ps hT hpre W hW
 simp only[zJz,TyA,Ty,Tys] at hT hpre
 simp only[zCE,TyA,Ty,Tys] at hT hpre
 obtain⟨_,_,rfl,⟨es,rfl,hes,tes⟩,rfl⟩:=hT
 simp only[zE,zAA] at hpre
 refine hW.vc [] _ _ ?_
 simp[-List.getD_eq_getElem?_getD,zJz,zCE,zCE]
 refine hW.loopS _ _ _ [.sl 3 .dp (.list .str),.sl 4 .dp (.int .i64)] (fun ys=>∃i:Nat,ys=[.list (zFc (es.take i)),.int .i64 i]∧i≤es.length) (fun ys=>es.length - (nth ys 1).I.toNat) ?_ ?_
 ·simp[-List.getD_eq_getElem?_getD,zJz,zCE]
  exact⟨0,⟨rfl,rfl⟩,by omega⟩
 ·rintro ys ⟨i,rfl,g1⟩
  have w1:IntKind.i64.wrap ((i:Int)+1)=i+1:=zC (by omega)
  have hl:(zFc (es.take i)).length≤i:=by
   have:=List.length_filter_le (fun e:PV=>!(e.S == [])) (es.take i)
   have h2:(es.take i).length≤i:=by rw[List.length_take];omega
   exact Nat.le_trans this h2
  refine hW.vc [] _ _ ?_
  simp[-List.getD_eq_getElem?_getD,zJz,zCE,w1,zCE]
  refine fun _=>⟨fun h=>⟨h,fun _=>⟨fun h2=>⟨h,fun _=>⟨by omega,fun _=>⟨⟨i+1,⟨?_,by omega⟩,by omega⟩,by omega⟩⟩⟩,fun h2=>⟨⟨i+1,⟨(zSW h h2).symm,by omega⟩,by omega⟩,by omega⟩⟩⟩,fun h=>by rw[List.take_of_length_le h]⟩
  rw[zSV h h2]
  obtain⟨_,he,_⟩:=tes _ (zb h)
  rw[he];rfl
def ldR(c:CL):List PV × Int:=cond (zCw c.ns c.ss c.ws c.ds) (zFc c.ds,0) ([],1)
def zAu:zJ:=⟨[(.rd,.agg [.list (.agg [.int .i64,.int .i64,.int .i64,.int .i64,.int .i64,.bool,.list (.agg [.int .i64,.str]),.int .i64,.int .i64,.int .i64,.list (.int .i64),.list (.int .i64),.list (.int .i64)]),.list (.agg [.str,.int .i64]),.list (.agg [.int .i64,.int .i64,.int .i64,.int .i64,.int .i64,.int .i64,.int .i64,.bool,.list (.agg [.int .i64,.str])]),.list .str])],[.list .str,.int .i64],true,fun _=>True,fun ps=>[.list (ldR (zFs (nth ps 0).A)).1,.int .i64 (ldR (zFs (nth ps 0).A)).2],fun _=>[]⟩
theorem zJQ:zh Tryz.prog 33 zAu:=by
 refine zP [0,1,2,3] [.tmp 2,.tmp 3] (zA (cs:=[]) zSN (zA (cs:=[]) zBi (zD (zB [])))) mixed Tryz.func33 rfl (by decide) rfl (by decide) rfl ?_
 intro ps hT hpre W hW
 simp only[zAu,TyA,Ty,Tys] at hT hpre
 obtain⟨_,_,rfl,⟨_,rfl,_,_,rfl,⟨ns,rfl,hns,tns⟩,_,_,rfl,⟨ss,rfl,hss,tss⟩,_,_,rfl,⟨ws,rfl,hws,tws⟩,_,_,rfl,⟨ds,rfl,hds,tds⟩,rfl⟩,rfl⟩:=hT
 have hT:=zGV tns tss tws tds
 refine hW.vc [] _ _ ?_
 simp[-List.getD_eq_getElem?_getD,zAu,zI,zCE,zBd]
 refine⟨fun h=>by rw[ldR,h];exact⟨rfl,rfl⟩,fun h=>?_⟩
 have hI:ClI ⟨ns,ss,ws,ds⟩:=zKY hT h
 have dl:ds.length≤60:=hI.dl
 exact⟨by omega,by rw[ldR,h];exact⟨rfl,rfl⟩⟩
def zHB:zJ:=zAu
theorem zQ1:zh Tryz.prog 41 zHB:=by
 refine zP [0,1,2,3] [.tmp 2,.tmp 3] (zA (cs:=[]) zX7 (zA (cs:=[]) zFa (zD (zB [])))) mixed Tryz.func41 rfl (by decide) rfl (by decide) rfl ?_
 intro ps hT hpre W hW
 simp only[zHB,TyA,Ty,Tys] at hT hpre
 simp only[zAu,TyA,Ty,Tys] at hT
 obtain⟨_,_,rfl,⟨_,rfl,_,_,rfl,⟨ns,rfl,hns,tns⟩,_,_,rfl,⟨ss,rfl,hss,tss⟩,_,_,rfl,⟨ws,rfl,hws,tws⟩,_,_,rfl,⟨ds,rfl,hds,tds⟩,rfl⟩,rfl⟩:=hT
 have hT:=zGV tns tss tws tds
 refine hW.vc [] _ _ ?_
 simp[-List.getD_eq_getElem?_getD,zHB,z7,zJz,zAu,zI,zCE,zBd,zAu,zI,zCE]
 refine⟨fun h=>by rw[ldR,h];exact⟨rfl,rfl⟩,fun h=>?_⟩
 have hI:ClI ⟨ns,ss,ws,ds⟩:=zKY hT h
 have dl:ds.length≤60:=hI.dl
 exact⟨by omega,by rw[ldR,h];exact⟨rfl,rfl⟩⟩
def zAk:zJ:=yA
theorem zKR:zh Tryz.prog 40 zAk:=by
 refine zP [0,1,2,3,4,5,6] [.tmp 4] (zA (cs:=[]) zN9 (zA (cs:=[]) zD7 (zA (cs:=[]) zJO (zD (zB []))))) mixed Tryz.func40 rfl (by decide) rfl (by decide) rfl ?_
 intro ps hT hpre W hW
 simp only[zAk,TyA,Ty,Tys] at hT hpre
 simp only[yA,TyA,Ty,Tys] at hT
 obtain⟨_,_,rfl,⟨_,rfl,_,_,rfl,⟨ns,rfl,hns,tns⟩,_,_,rfl,⟨ss,rfl,hss,tss⟩,_,_,rfl,⟨ws,rfl,hws,tws⟩,_,_,rfl,⟨ds,rfl,hds,tds⟩,rfl⟩,_,_,rfl,⟨_,rfl,_,_,rfl,⟨ns',rfl,hns',tns'⟩,_,_,rfl,⟨ss',rfl,hss',tss'⟩,_,_,rfl,⟨ws',rfl,hws',tws'⟩,_,_,rfl,⟨ds',rfl,hds',tds'⟩,rfl⟩,rfl⟩:=hT
 refine hW.vc [(6,[],tkN [0,1,2,3,4,5,6,7,8,9] (alS 10 (tkN [11] .done))),(11,[],tkN [0,1,2,3,4,5,6,7,8,9,10] .done)] _ _ ?_
 simp[-List.getD_eq_getElem?_getD,zAk,yg,yF,zBp,yA,zp,zM,zAH,yA,zp,zM]
 have hC:zHd [PV.list ns,PV.list ss,PV.list ws,PV.list ds] [PV.list ns',PV.list ss',PV.list ws',PV.list ds']=(eqL zDV ns ns'&&eqL zBT ss ss'&&eqL zDZ ws ws'&&eqL (fun x y=>x.S == y.S) ds ds'):=rfl
 rw[hC]
 refine fun _ _ _ _=>⟨fun h=>?_,fun h1 h2 h3 h4=>?_⟩
 ·rcases h with ((h | h) | h) | h
  ·rw[zAX (f:=zDV) (by omega)];rfl
  ·rw[zAX (f:=zBT) (by omega)];simp
  ·rw[h];simp
  ·rw[h];simp
 have h1:ns.length=ns'.length:=by omega
 have h2:ss.length=ss'.length:=by omega
 refine hW.loopS _ _ _ [.sl 5 .dp (.int .i64)] (fun ys=>∃i:Nat,ys=[.int .i64 i]∧i≤ns.length∧eqL zDV ns ns'=eqL zDV (ns.drop i) (ns'.drop i)) (fun ys=>ns.length - (nth ys 0).I.toNat) ?_ ?_
 ·simp[-List.getD_eq_getElem?_getD,zAk,yg,yF,zBp,yA,zp,zM,zAH]
  exact⟨0,rfl,by simp,by simp⟩
 ·rintro ys ⟨i,rfl,g1,g2⟩
  have w1:IntKind.i64.wrap ((i:Int)+1)=i+1:=zC (by omega)
  refine hW.vc [(6,[],tkN [0,1,2,3,4,5,6,7,8,9] (alS 10 (tkN [11] .done))),(11,[],tkN [0,1,2,3,4,5,6,7,8,9,10] .done)] _ _ ?_
  simp[-List.getD_eq_getElem?_getD,zAk,yg,yF,zBp,yA,zp,zM,zAH,yA,zAH,w1]
  rw[hC,h3,h4,Bool.and_true,Bool.and_true]
  refine fun _=>⟨fun h=>⟨by decide +kernel,h,?_⟩,fun h=>?_⟩
  ·clear hW
   intros
   refine⟨by omega,?_⟩
   intros
   rw[zG h,zG (by omega:i < ns'.length),eqL] at g2
   refine⟨fun q=>?_,fun q=>⟨⟨i+1,by omega,by omega,?_⟩,by omega⟩⟩
   ·have h8:zDV (nth ns i) (nth ns' i)=false:=q
    rw[g2,h8];rfl
   ·have h8:zDV (nth ns i) (nth ns' i)=true:=q
    rw[g2,h8,Bool.true_and]
  ·rw[List.drop_eq_nil_of_le h,List.drop_eq_nil_of_le (by omega)] at g2
   refine hW.loopS _ _ _ [.sl 6 .dp (.int .i64)] (fun ys=>∃i:Nat,ys=[.int .i64 i]∧i≤ss.length∧eqL zBT ss ss'=eqL zBT (ss.drop i) (ss'.drop i)) (fun ys=>ss.length - (nth ys 0).I.toNat) ?_ ?_
   ·simp[-List.getD_eq_getElem?_getD,zAk,yg,yF,zBp,yA,zp,zM,zAH]
    exact⟨0,rfl,by simp,by simp⟩
   ·rintro ys ⟨j,rfl,r1,r2⟩
    have w1:IntKind.i64.wrap ((j:Int)+1)=j+1:=zC (by omega)
    refine hW.vc [(6,[],tkN [0,1,2,3,4,5,6,7,8,9] (alS 10 (tkN [11] .done))),(11,[],tkN [0,1,2,3,4,5,6,7,8,9,10] .done)] _ _ ?_
    simp[-List.getD_eq_getElem?_getD,zAk,yg,yF,zBp,yA,zp,zM,zAH,yA,zAH,w1]
    rw[hC,h3,h4,g2,Bool.and_true,Bool.and_true]
    have hS:∀b:Bool,(eqL zDV [] []&&b)=b:=fun b=>rfl
    simp only[hS]
    refine fun _=>⟨fun h=>⟨by decide +kernel,h,?_⟩,fun h=>by rw[r2,List.drop_eq_nil_of_le h,List.drop_eq_nil_of_le (by omega)];rfl⟩
    clear hW
    intros
    refine⟨by omega,?_⟩
    intros
    rw[zG h,zG (by omega:j < ss'.length),eqL] at r2
    refine⟨by decide +kernel,fun q=>?_,fun q q'=>⟨⟨j+1,by omega,by omega,?_⟩,by omega⟩⟩
    ·have h8:zBT (nth ss j) (nth ss' j)=false:=by rcases q with q | q<;>simp[zBT,zGK,q]
     rw[r2,h8];rfl
    ·have h8:zBT (nth ss j) (nth ss' j)=true:=by simp[zBT,zGK,q,q']
     rw[r2,h8,Bool.true_and]
def zSg(ns ds:List PV):Bool:=ns.all fun e=>zF0 (zFv (z8 e.A).log (z8 e.A).com.toNat) ds
def agR(c:CL):Bool × Int:=cond (zCw c.ns c.ss c.ws c.ds) (zSg c.ns c.ds,0) (false,1)
def zA5:zJ:=⟨[(.rd,.agg [.list (.agg [.int .i64,.int .i64,.int .i64,.int .i64,.int .i64,.bool,.list (.agg [.int .i64,.str]),.int .i64,.int .i64,.int .i64,.list (.int .i64),.list (.int .i64),.list (.int .i64)]),.list (.agg [.str,.int .i64]),.list (.agg [.int .i64,.int .i64,.int .i64,.int .i64,.int .i64,.int .i64,.int .i64,.bool,.list (.agg [.int .i64,.str])]),.list .str])],[.bool,.int .i64],true,fun _=>True,fun ps=>[.bool (agR (zFs (nth ps 0).A)).1,.int .i64 (agR (zFs (nth ps 0).A)).2],fun _=>[]⟩
theorem zJR:zh Tryz.prog 39 zA5:=by
 refine zP [0,1,2,3,5,10,11,12] [.tmp 2,.tmp 3] (zA (cs:=[]) zJj (zA (cs:=[]) zIP (zA (cs:=[]) zBi (zD (zB []))))) mixed Tryz.func39 rfl (by decide) rfl (by decide) rfl ?_
 intro ps hT hpre W hW
 simp only[zA5,TyA,Ty,Tys] at hT hpre
 obtain⟨_,_,rfl,⟨_,rfl,_,_,rfl,⟨ns,rfl,hns,tns⟩,_,_,rfl,⟨ss,rfl,hss,tss⟩,_,_,rfl,⟨ws,rfl,hws,tws⟩,_,_,rfl,⟨ds,rfl,hds,tds⟩,rfl⟩,rfl⟩:=hT
 have hT:=zGV tns tss tws tds
 refine hW.vc [(6,[],tkN [0,2,3] (alN [1,4] (tkN [5] .done)))] _ _ ?_
 simp[-List.getD_eq_getElem?_getD,zA5,zI,zAG,ym,z5,zBd,z5]
 refine⟨fun h=>by rw[agR,h];exact⟨rfl,rfl⟩,fun h _=>?_⟩
 have hI:ClI ⟨ns,ss,ws,ds⟩:=zKY hT h
 have n5:ns.length≤5:=hI.n5
 have hR:agR ⟨ns,ss,ws,ds⟩=(zSg ns ds,0):=by rw[agR,h];rfl
 refine hW.loopS _ _ _ [.sl 12 .dp (.int .i64)] (fun ys=>∃i:Nat,ys=[.int .i64 i]∧i≤ns.length∧zSg ns ds=zSg (ns.drop i) ds) (fun ys=>ns.length - (nth ys 0).I.toNat) ?_ ?_
 ·simp[-List.getD_eq_getElem?_getD,zA5,zI,zAG,ym,z5]
  exact⟨0,rfl,by simp,by simp⟩
 ·rintro ys ⟨i,rfl,g1,g2⟩
  have w1:IntKind.i64.wrap ((i:Int)+1)=i+1:=zC (by omega)
  refine hW.vc [(6,[],tkN [0,2,3] (alN [1,4] (tkN [5] .done)))] _ _ ?_
  simp[-List.getD_eq_getElem?_getD,zA5,zI,zAG,ym,z5,zBd,z5,zF3,w1]
  rw[hR]
  refine⟨fun h=>⟨h,?_⟩,fun h=>?_⟩
  ·clear hW
   intros
   obtain⟨a1,a2,a3,a4⟩:=hI.at (i:=i) h
   have hF:=a4.F
   have c0:=hF.c0;have c1:=hF.c1;have l6:=hF.l6
   have e1:zSg (ns.drop i) ds=(zF0 (zFv (nth (nth ns i).A 6).L (nth (nth ns i).A 7).I.toNat) ds&&zSg (ns.drop (i+1)) ds):=by
    rw[zSg,zG h,List.all_cons];rfl
   refine⟨by decide +kernel,⟨c0,c1,Nat.le_trans l6 (by omega)⟩,fun q=>⟨?_,rfl⟩,fun q=>⟨⟨i+1,by omega,by omega,?_⟩,by omega⟩⟩
   ·rw[g2,e1,q,Bool.false_and]
   ·rw[g2,e1,q,Bool.true_and]
  ·rw[g2,List.drop_eq_nil_of_le h];exact⟨rfl,rfl⟩
def zNr(ns ds:List PV):Nat:=(ns.filter fun e=>zF0 ds (zFv (z8 e.A).log (z8 e.A).log.length)).length
def zDT:zJ:=zI
theorem zLD:zh Tryz.prog 35 zDT:=by
 refine zP [0,1,2] [.tmp 2] (zA (cs:=[]) zBi (zD (zB []))) mixed Tryz.func35 rfl (by decide) rfl (by decide) rfl ?_
 intro ps hT hpre W hW
 simp only[zDT,TyA,Ty,Tys] at hT hpre
 simp only[zI,TyA,Ty,Tys] at hT
 obtain⟨_,_,rfl,⟨_,rfl,_,_,rfl,⟨ns,rfl,hns,tns⟩,_,_,rfl,⟨ss,rfl,hss,tss⟩,_,_,rfl,⟨ws,rfl,hws,tws⟩,_,_,rfl,⟨ds,rfl,hds,tds⟩,rfl⟩,rfl⟩:=hT
 refine hW.vc [] _ _ ?_
 simp[-List.getD_eq_getElem?_getD,zDT,zI,zI]
end
section
variable [zS]
def cnB(Q:Nat→Bool):Nat→Nat
 | 0=>0
 | n+1=>cnB Q n+(if Q n=true then 1 else 0)
theorem zIc{P Q:Nat→Bool}:∀{n:Nat},(∀i,i < n→P i=true→Q i=false)→cnB P n+cnB Q n≤n
 | 0,_=>by simp[cnB]
 | n+1,h=>by
  have ih:=zIc (P:=P) (Q:=Q) (n:=n) fun i hi=>h i (by omega)
  have hn:=h n (by omega)
  simp only[cnB]
  cases hp:P n with
  | false=>simp only[Bool.false_eq_true,if_false];split<;>omega
  | true=>rw[hn hp];simp;omega
def Maj(n:Nat)(P:Nat→Prop):Prop:=∃Q:Nat→Bool,n < 2*cnB Q n∧∀i,i < n→Q i=true→P i
theorem Maj.meet{n:Nat}{P R:Nat→Prop}(h:Maj n P)(g:Maj n R):∃i,i < n∧P i∧R i:=by
 obtain⟨Q,q1,q2⟩:=h
 obtain⟨S,s1,s2⟩:=g
 apply Classical.byContradiction
 intro hc
 have:=zIc (P:=Q) (Q:=S) (n:=n) fun i hi hq=>by
  cases hs:S i with
  | false=>rfl
  | true=>exact absurd ⟨i,hi,q2 i hi hq,s2 i hi hs⟩ hc
 omega
theorem Maj.mono{n:Nat}{P R:Nat→Prop}(h:Maj n P)(hi:∀i,i < n→P i→R i):Maj n R:=by
 obtain⟨Q,q1,q2⟩:=h
 exact⟨Q,q1,fun i hl hq=>hi i hl (q2 i hl hq)⟩
def eT(e:PV):Int:=(nth e.A 0).I
def ltm(l:List PV):Int:=zCI l l.length
theorem zMU:ltm []=0:=rfl
theorem zF4{l:List PV}(h:l≠[]):ltm l=eT (nth l (l.length - 1)):=by
 have:0 < l.length:=List.length_pos_iff.2 h
 unfold ltm zCI
 rw[if_neg (by omega)]
 have e:((l.length:Int) - 1).toNat=l.length - 1:=by omega
 rw[e];rfl
def LP(ll:Int→List PV)(l:List PV):Prop:=∀p,p < l.length→l.take (p+1)=(ll (eT (nth l p))).take (p+1)
def zSm(l:List PV):Prop:=∀i j,i≤j→j < l.length→eT (nth l i)≤eT (nth l j)
theorem LP.all{ll:Int→List PV}{l:List PV}(h:LP ll l)(hn:l≠[]):l=(ll (ltm l)).take l.length:=by
 have hp:0 < l.length:=List.length_pos_iff.2 hn
 have:=h (l.length - 1) (by omega)
 rw[show l.length - 1+1=l.length by omega,List.take_length,←zF4 hn] at this
 exact this
theorem LP.take{ll:Int→List PV}{l:List PV}(h:LP ll l)(k:Nat):LP ll (l.take k):=by
 intro p hp
 rw[List.length_take] at hp
 have:=h p (by omega)
 rw[List.take_take,Nat.min_eq_left (by omega),this]
 have e:nth (l.take k) p=nth l p:=by simp[nth,List.getElem?_take,show p < k by omega]
 rw[e]
theorem zF1{l:List PV}{k p:Nat}(h:p < k):nth (l.take k) p=nth l p:=by simp[nth,List.getElem?_take,h]
theorem zBH{a b:List PV}{k m:Nat}(h:a.take k=b.take k)(hm:m≤k):a.take m=b.take m:=by
 have:=congrArg (List.take m) h
 rwa[List.take_take,List.take_take,Nat.min_eq_left hm] at this
theorem yx{a b:List PV}{k p:Nat}(h:a.take k=b.take k)(hp:p < k):nth a p=nth b p:=by
 rw[←zF1 hp,h,zF1 hp]
theorem y8{a b:List PV}{k:Nat}(h:a.take k=b.take k)(hb:k≤b.length):k≤a.length:=by
 have:=congrArg List.length h
 rw[List.length_take,List.length_take] at this
 omega
structure Gh where
 ex:Int→Prop
 who:Int→Nat
 el:Int→List PV
 ll:Int→List PV
 cl:Int→Nat→List PV
 vf:Int→Nat→Int
 vl:Int→Nat→List PV
 ak:Int→Nat→Nat
def UD(c v:List PV):Prop:=ltm v < ltm c∨ltm v=ltm c∧v.length≤c.length
def Dis(G:Gh)(s r:Int)(k:Nat):Prop:=(G.el r).take k≠(G.ll s).take k
def V3(G:Gh)(t:Int)(j:Nat):Prop:=∀s,s < t→∀k,k≤G.ak s j→(G.vl t j).take k=(G.ll s).take k∨∃r,s < r∧r < t∧G.ex r∧Dis G s r k
structure GI (n:Nat) (G:Gh):Prop where
 nex:∀t,¬G.ex t→G.ll t=[]∧G.el t=[]
 pre:∀t,∃r,G.ll t=G.el t++r∧∀e∈r,eT e=t
 elt:∀t,∀e∈G.el t,eT e < t
 lpl:∀t,LP G.ll (G.ll t)
 lpc:∀t c,LP G.ll (G.cl t c)
 clt:∀t c,∀e∈G.cl t c,eT e < t
 lpv:∀t j,LP G.ll (G.vl t j)
 mov:∀t j,zSm (G.vl t j)
 maj:∀t,G.ex t→1≤t∧G.who t < n∧G.el t=G.cl t (G.who t)∧Maj n fun j=>G.vf t j=G.who t∧UD (G.cl t (G.who t)) (G.vl t j)∧V3 G t j
 akl:∀t j,G.ak t j≤(G.ll t).length
structure Cm (n:Nat) (G:Gh) (t:Int) (k:Nat):Prop where
 ex:G.ex t
 k1:1≤k
 kl:k≤(G.ll t).length
 tm:eT (nth (G.ll t) (k - 1))=t
 mj:Maj n fun j=>k≤G.ak t j
theorem GI.el_ll{n:Nat}{G:Gh}(h:GI n G)(t:Int){k:Nat}(hk:k≤(G.el t).length):(G.ll t).take k=(G.el t).take k:=by
 obtain⟨r,hr,_⟩:=h.pre t
 rw[hr,List.take_append_of_le_length hk]
theorem GI.complete{n:Nat}{G:Gh}(h:GI n G){t:Int}{k:Nat}(hc:Cm n G t k):∀(m:Nat) (s:Int),(s - t).toNat=m→t < s→G.ex s→(G.el s).take k=(G.ll t).take k:=by
 intro m
 induction m using Nat.strongRecOn with
 | ind m ih=>
  intro s hm hts hs
  have IH:∀r,t < r→r < s→G.ex r→(G.el r).take k=(G.ll t).take k:=fun r h1 h2 h3=>ih (r - t).toNat (by omega) r rfl h1 h3
  obtain⟨s1,_,he,hM⟩:=h.maj s hs
  obtain⟨j,_,ha,hv,hu,h3⟩:=hc.mj.meet hM
  have hV:(G.vl s j).take k=(G.ll t).take k:=by
   rcases h3 t hts k ha with q | ⟨r,r1,r2,r3,r4⟩
   ·exact q
   ·exact absurd (IH r r1 r2 r3) r4
  have k1:=hc.k1
  have t1:=(h.maj t hc.ex).1
  have hvl:=y8 hV hc.kl
  have hvn:G.vl s j≠[]:=by intro e;rw[e] at hvl;simp at hvl;omega
  have hlt:t≤ltm (G.vl s j):=by
   have h1:=h.mov s j (k - 1) ((G.vl s j).length - 1) (by omega) (by omega)
   rw[←zF4 hvn,yx hV (by omega),hc.tm] at h1
   exact h1
  rw[←he] at hu
  have hen:G.el s≠[]:=by
   intro e
   rw[e] at hu
   rcases hu with q | ⟨q,q2⟩
   ·rw[zMU] at q;omega
   ·simp at q2;exact hvn q2
  have hLe:LP G.ll (G.el s):=by rw[he];exact h.lpc s _
  have hE:=hLe.all hen
  have hel:0 < (G.el s).length:=List.length_pos_iff.2 hen
  have hq:ltm (G.el s) < s:=by rw[zF4 hen];exact h.elt s _ (zb (by omega))
  rcases hu with q | ⟨q,q2⟩
  ·have hex:G.ex (ltm (G.el s)):=Classical.byContradiction fun hne=>by
    have:=(h.nex _ hne).1
    rw[this,List.take_nil] at hE
    exact hen hE
   have hI:=IH (ltm (G.el s)) (by omega) hq hex
   have hk2:=y8 hI hc.kl
   have hlong:(G.el (ltm (G.el s))).length < (G.el s).length:=by
    apply Classical.byContradiction
    intro hn
    have e1:G.el s=(G.el (ltm (G.el s))).take (G.el s).length:=by
     rw[←h.el_ll _ (by omega)];exact hE
    have e2:nth (G.el s) ((G.el s).length - 1)=nth (G.el (ltm (G.el s))) ((G.el s).length - 1):=yx (k:=(G.el s).length) (by rw[List.take_length];exact e1) (by omega)
    have e3:=h.elt (ltm (G.el s)) (nth (G.el (ltm (G.el s))) ((G.el s).length - 1)) (zb (by omega))
    rw[←e2,←zF4 hen] at e3
    omega
   rw[hE,List.take_take,Nat.min_eq_left (by omega),h.el_ll _ hk2]
   exact hI
  ·have hVe:=(h.lpv s j).all hvn
   rw[q] at hVe
   rw[hE,List.take_take,Nat.min_eq_left (by omega),←hV,hVe,List.take_take,Nat.min_eq_left (by omega)]
theorem GI.cm_ll{n:Nat}{G:Gh}(h:GI n G){t s:Int}{k:Nat}(hc:Cm n G t k)(hs:G.ex s)(hts:t≤s):(G.ll s).take k=(G.ll t).take k:=by
 by_cases e:t=s
 ·rw[e]
 ·have:=h.complete hc _ s rfl (by omega) hs
  rw[←this]
  exact h.el_ll s (y8 this hc.kl)
theorem GI.cm_cm{n:Nat}{G:Gh}(h:GI n G){t s:Int}{k l m:Nat}(hc:Cm n G t k)(hd:Cm n G s l)(h1:m≤k)(h2:m≤l):(G.ll t).take m=(G.ll s).take m:=by
 by_cases e:t≤s
 ·exact(zBH (h.cm_ll hc hd.ex e) h1).symm
 ·exact zBH (h.cm_ll hd hc.ex (by omega)) h2
end
section
variable [zS]
def Kn(n:Nat)(G:Gh)(t:Int)(l:List PV)(k:Nat):Prop:=k=0∨∃s m,s≤t∧Cm n G s m∧k≤m∧l.take k=(G.ll s).take k
structure Vt (G:Gh) (t:Int) (c j:Nat):Prop where
 vf:G.vf t j=c
 ud:UD (G.cl t c) (G.vl t j)
 v3:¬G.ex t→V3 G t j
structure NI (n:Nat) (G:Gh) (i:Nat) (x:ND):Prop where
 lp:LP G.ll x.log
 vt:x.vote=G.vf x.term i
 vn:∀t,x.term < t→G.vf t i=-1
 an:∀t,x.term < t→G.ak t i=0
 ab:∀t k,k≤G.ak t i→x.log.take k=(G.ll t).take k∨∃r,t < r∧r≤x.term∧G.ex r∧Dis G t r k
 kn:Kn n G x.term x.log x.com.toNat
 ld:x.role=2→G.ex x.term∧G.who x.term=i∧x.log=G.ll x.term∧(G.ll x.term).length≤G.ak x.term i∧∀j,j < n→j≠i→(nth x.ms j).I≤G.ak x.term j
 cd:x.role=1→x.log=G.cl x.term i∧(∀v∈x.vs,∃j:Nat,v.I=j∧j < n∧Vt G x.term i j)∧¬(G.ex x.term∧G.who x.term=i)
structure MI (n:Nat) (G:Gh) (m:MG):Prop where
 rq:m.kind=1→m.idx=(G.cl m.term m.frm.toNat).length∧m.lt=ltm (G.cl m.term m.frm.toNat)
 vd:m.kind=2→m.ok=true→Vt G m.term m.to.toNat m.frm.toNat
 ap:m.kind=3→G.ex m.term∧G.who m.term=m.frm.toNat∧0≤m.idx∧m.idx.toNat+m.es.length≤(G.ll m.term).length∧m.es=((G.ll m.term).drop m.idx.toNat).take m.es.length∧m.lt=zCI (G.ll m.term) m.idx∧Kn n G m.term (G.ll m.term) m.com.toNat
 ak:m.kind=4→m.ok=true→m.idx.toNat≤G.ak m.term m.frm.toNat
def zKW(e:PV):PV:=.str (nth e.A 1).S
def DI(n:Nat)(G:Gh)(ds:List PV):Prop:=ds=[]∨∃t k,Cm n G t k∧ds.length≤k∧ds=((G.ll t).take ds.length).map zKW
structure RI (c:CL) (G:Gh):Prop where
 I:ClI c
 R:RtI c
 g:GI c.ns.length G
 nd:∀i,i < c.ns.length→NI c.ns.length G i (yH c.ns i)
 ms:∀e∈c.ws,MI c.ns.length G (yk e.A)∧(yk e.A).term≤(yH c.ns (yk e.A).frm.toNat).term
 vc:∀t j (k:Nat),G.vf t j=k→k < c.ns.length∧t≤(yH c.ns k).term
 vg:∀t j (k:Nat),G.vf t j=k→Vt G t k j
 wt:∀t,G.ex t→t≤(yH c.ns (G.who t)).term
 cd:∀i,i < c.ns.length→(yH c.ns i).com≤c.ds.length
 ds:DI c.ns.length G c.ds
structure Ext (G G':Gh) (i:Nat) (T:Int):Prop where
 ex:∀t,G.ex t→G'.ex t∧G'.who t=G.who t∧G'.el t=G.el t
 new:∀t,G'.ex t→¬G.ex t→G'.who t=i
 ll:∀t,∃r,G'.ll t=G.ll t++r
 llo:∀t,G.ex t→G.who t≠i→G'.ll t=G.ll t
 vo:∀t j,j≠i→G'.vf t j=G.vf t j∧G'.vl t j=G.vl t j∧G'.ak t j=G.ak t j
 vi:∀t,G.vf t i≠-1→G'.vf t i=G.vf t i∧G'.vl t i=G.vl t i
 ai:∀t,G.ak t i≤G'.ak t i
 al:∀t,t < T→G'.ak t i=G.ak t i
 co:∀t j,j≠i→G'.cl t j=G.cl t j
 ci:∀t,t≤T→G'.cl t i=G.cl t i
theorem Ext.refl(G:Gh)(i:Nat)(T:Int):Ext G G i T:=
 ⟨fun _ h=>⟨h,rfl,rfl⟩,fun _ h h'=>absurd h h',fun t=>⟨[],by simp⟩,fun _ _ _=>rfl,fun _ _ _=>⟨rfl,rfl,rfl⟩,fun _ _=>⟨rfl,rfl⟩,fun _=>Nat.le_refl _,fun _ _=>rfl,fun _ _ _=>rfl,fun _ _=>rfl⟩
section
variable {G G':Gh} {i:Nat} {T:Int} {n:Nat}
theorem Ext.tk(h:Ext G G' i T){t:Int}{k:Nat}(hk:k≤(G.ll t).length):(G'.ll t).take k=(G.ll t).take k:=by
 obtain⟨r,hr⟩:=h.ll t
 rw[hr,List.take_append_of_le_length hk]
theorem Ext.len(h:Ext G G' i T)(t:Int):(G.ll t).length≤(G'.ll t).length:=by
 obtain⟨r,hr⟩:=h.ll t
 rw[hr,List.length_append];omega
theorem Ext.nth(h:Ext G G' i T){t:Int}{p:Nat}(hp:p < (G.ll t).length):nth (G'.ll t) p=nth (G.ll t) p:=
 yx (k:=p+1) (h.tk (by omega)) (by omega)
theorem Ext.ak(h:Ext G G' i T)(t:Int)(j:Nat):G.ak t j≤G'.ak t j:=by
 by_cases e:j=i
 ·rw[e];exact h.ai t
 ·rw[(h.vo t j e).2.2];exact Nat.le_refl _
theorem Ext.lp(h:Ext G G' i T){l:List PV}(hl:LP G.ll l):LP G'.ll l:=by
 intro p hp
 have h1:=hl p hp
 rw[h1]
 exact(h.tk (y8 h1.symm (by omega))).symm
theorem Ext.cm(h:Ext G G' i T){t:Int}{k:Nat}(hc:Cm n G t k):Cm n G' t k:=by
 have k1:=hc.k1;have kl:=hc.kl
 exact⟨(h.ex t hc.ex).1,hc.k1,Nat.le_trans hc.kl (h.len t),by rw[h.nth (by omega)];exact hc.tm,hc.mj.mono fun j _ hj=>Nat.le_trans hj (h.ak t j)⟩
theorem Ext.kn(h:Ext G G' i T){t t':Int}(ht:t≤t'){l:List PV}{k:Nat}(hk:Kn n G t l k):Kn n G' t' l k:=by
 rcases hk with h0 | ⟨s,m,h1,h2,h3,h4⟩
 ·exact .inl h0
 ·have:=h2.kl
  exact .inr ⟨s,m,by omega,h.cm h2,h3,by rw[h4,h.tk (by omega)]⟩
theorem Ext.v3(h:Ext G G' i T)(hg:GI n G){t:Int}{j:Nat}(hv:G.vf t j≠-1)(hT:j=i→t≤T)(h3:V3 G t j):V3 G' t j:=by
 have hvl:G'.vl t j=G.vl t j:=by
  by_cases e:j=i
  ·subst e;exact(h.vi t hv).2
  ·exact(h.vo t j e).2.1
 intro s hs k hk
 have hak:G'.ak s j=G.ak s j:=by
  by_cases e:j=i
  ·subst e;exact h.al s (by have:=hT rfl;omega)
  ·exact(h.vo s j e).2.2
 rw[hak] at hk
 have hkl:=Nat.le_trans hk (hg.akl s j)
 rw[hvl,h.tk hkl]
 rcases h3 s hs k hk with q | ⟨r,r1,r2,r3,r4⟩
 ·exact .inl q
 ·refine .inr ⟨r,r1,r2,(h.ex r r3).1,?_⟩
  unfold Dis at r4 ⊢
  rw[(h.ex r r3).2.2,h.tk hkl]
  exact r4
theorem Ext.dis(h:Ext G G' i T){s r:Int}{k:Nat}(hk:k≤(G.ll s).length)(hr:G.ex r)(hd:Dis G s r k):Dis G' s r k:=by
 unfold Dis at hd ⊢
 rw[(h.ex r hr).2.2,h.tk hk]
 exact hd
theorem Ext.cl(h:Ext G G' i T){t:Int}{c:Nat}(hT:c=i→t≤T):G'.cl t c=G.cl t c:=by
 by_cases e:c=i
 ·subst e;exact h.ci t (hT rfl)
 ·exact h.co t c e
theorem Ext.vt(h:Ext G G' i T)(hg:GI n G){t:Int}{c j:Nat}(hc:c=i→t≤T)(hj:j=i→t≤T)(hv:Vt G t c j):Vt G' t c j:=by
 have hne:G.vf t j≠-1:=by rw[hv.vf];omega
 have h1:G'.vf t j=G.vf t j∧G'.vl t j=G.vl t j:=by
  by_cases e:j=i
  ·subst e;exact h.vi t hne
  ·exact⟨(h.vo t j e).1,(h.vo t j e).2.1⟩
 exact⟨by rw[h1.1,hv.vf],by rw[h1.2,h.cl hc];exact hv.ud,fun hn=>h.v3 hg hne hj (hv.v3 fun q=>hn (h.ex t q).1)⟩
theorem Ext.ni(h:Ext G G' i T)(hg:GI n G){j:Nat}{x:ND}(hj:j≠i)(hx:NI n G j x)(hT:∀t k,G.vf t k=(i:Int)→t≤T)(hv:∀t,G.vf t i≠-1→t≤T):NI n G' j x:=by
 refine⟨h.lp hx.lp,by rw[(h.vo _ j hj).1];exact hx.vt,fun t ht=>by rw[(h.vo _ j hj).1];exact hx.vn t ht,fun t ht=>by rw[(h.vo _ j hj).2.2];exact hx.an t ht,fun t k hk=>?_,h.kn (Int.le_refl _) hx.kn,fun hr=>?_,fun hr=>?_⟩
 ·rw[(h.vo _ j hj).2.2] at hk
  have hkl:=Nat.le_trans hk (hg.akl t j)
  rw[h.tk hkl]
  rcases hx.ab t k hk with q | ⟨r,r1,r2,r3,r4⟩
  ·exact .inl q
  ·exact .inr ⟨r,r1,r2,(h.ex r r3).1,h.dis hkl r3 r4⟩
 ·obtain⟨l1,l2,l3,l4,l5⟩:=hx.ld hr
  have e:G'.ll x.term=G.ll x.term:=h.llo _ l1 (by rw[l2];exact hj)
  refine⟨(h.ex _ l1).1,by rw[(h.ex _ l1).2.1,l2],by rw[e];exact l3,by rw[e];exact Nat.le_trans l4 (h.ak _ _),fun k hk hne=>Int.le_trans (l5 k hk hne) (by have:=h.ak x.term k;omega)⟩
 ·obtain⟨c1,c2,c3⟩:=hx.cd hr
  refine⟨by rw[h.co _ j hj];exact c1,fun v hv'=>?_,fun⟨q1,q2⟩=>?_⟩
  ·obtain⟨k,k1,k2,k3⟩:=c2 v hv'
   exact⟨k,k1,k2,h.vt hg (fun e=>absurd e hj) (fun e=>by subst e;exact hv _ (by rw[k3.vf];omega)) k3⟩
  ·by_cases e:G.ex x.term
   ·exact c3 ⟨e,by rw[←(h.ex _ e).2.1];exact q2⟩
   ·rw[h.new _ q1 e] at q2;exact hj q2.symm
theorem Ext.mi(h:Ext G G' i T)(hg:GI n G){m:MG}(hm:MI n G m)(hf:m.frm.toNat=i→m.term≤T)(hT:∀t k,G.vf t k=(i:Int)→t≤T)(hv:∀t,G.vf t i≠-1→t≤T):MI n G' m:=by
 refine⟨fun hk=>?_,fun hk ho=>?_,fun hk=>?_,fun hk ho=>Nat.le_trans (hm.ak hk ho) (h.ak _ _)⟩
 ·rw[h.cl hf];exact hm.rq hk
 ·have:=hm.vd hk ho
  exact h.vt hg (fun e=>hT _ _ (by rw[this.vf,e])) (fun e=>by rw[e] at this;exact hv _ (by rw[this.vf];omega)) this
 ·obtain⟨a1,a2,a0,a3,a4,a5,a6⟩:=hm.ap hk
  have hl:=h.len m.term
  refine⟨(h.ex _ a1).1,by rw[(h.ex _ a1).2.1,a2],a0,by omega,?_,?_,?_⟩
  ·obtain⟨r,hr⟩:=h.ll m.term
   rw[hr,List.drop_append_of_le_length (by omega),List.take_append_of_le_length (by rw[List.length_drop];omega)]
   exact a4
  ·rw[a5]
   unfold zCI
   split
   ·rfl
   ·rename_i h0
    rw[h.nth (by omega)]
  ·rcases h.kn (Int.le_refl _) a6 with q | ⟨s,k,q1,q2,q3,q4⟩
   ·exact .inl q
   ·refine .inr ⟨s,k,q1,q2,q3,?_⟩
    rw[←q4]
    exact h.tk (y8 q4 (by have:=q2.kl;omega))
theorem Ext.di(h:Ext G G' i T){ds:List PV}(hd:DI n G ds):DI n G' ds:=by
 rcases hd with q | ⟨t,k,q1,q2,q3⟩
 ·exact .inl q
 ·have:=q1.kl
  exact .inr ⟨t,k,h.cm q1,q2,by rw[h.tk (by omega)];exact q3⟩
end
end
section
variable [zS]
theorem Ext.trans{G G1 G2:Gh}{i:Nat}{T:Int}(h:Ext G G1 i T)(g:Ext G1 G2 i T):Ext G G2 i T:=by
 refine⟨fun t ht=>?_,fun t h2 h0=>?_,fun t=>?_,fun t ht hw=>?_,fun t j hj=>?_,fun t ht=>?_,fun t=>Nat.le_trans (h.ai t) (g.ai t),fun t ht=>by rw[g.al t ht,h.al t ht],fun t j hj=>by rw[g.co t j hj,h.co t j hj],fun t ht=>by rw[g.ci t ht,h.ci t ht]⟩
 ·obtain⟨a1,a2,a3⟩:=h.ex t ht
  obtain⟨b1,b2,b3⟩:=g.ex t a1
  exact⟨b1,by rw[b2,a2],by rw[b3,a3]⟩
 ·by_cases h1:G1.ex t
  ·rw[(g.ex t h1).2.1];exact h.new t h1 h0
  ·exact g.new t h2 h1
 ·obtain⟨r,hr⟩:=h.ll t
  obtain⟨q,hq⟩:=g.ll t
  exact⟨r++q,by rw[hq,hr,List.append_assoc]⟩
 ·obtain⟨a1,a2,a3⟩:=h.ex t ht
  rw[g.llo t a1 (by rw[a2];exact hw),h.llo t ht hw]
 ·obtain⟨a1,a2,a3⟩:=h.vo t j hj
  obtain⟨b1,b2,b3⟩:=g.vo t j hj
  exact⟨by rw[b1,a1],by rw[b2,a2],by rw[b3,a3]⟩
 ·obtain⟨a1,a2⟩:=h.vi t ht
  obtain⟨b1,b2⟩:=g.vi t (by rw[a1];exact ht)
  exact⟨by rw[b1,a1],by rw[b2,a2]⟩
theorem Ext.le{G G1:Gh}{i:Nat}{T T':Int}(h:Ext G G1 i T')(ht:T≤T'):Ext G G1 i T:=
 ⟨h.ex,h.new,h.ll,h.llo,h.vo,h.vi,h.ai,fun t q=>h.al t (by omega),h.co,fun t q=>h.ci t (by omega)⟩
def tmO(c:CL)(i:Nat)(x:ND)(k:Nat):Int:=if k=i then x.term else (yH c.ns k).term
structure Pt (c:CL) (i:Nat) (G G':Gh) (x:ND) (sent:List PV):Prop where
 E:Ext G G' i (yH c.ns i).term
 g:GI c.ns.length G'
 nd:NI c.ns.length G' i x
 t:(yH c.ns i).term≤x.term
 vc:∀t j (k:Nat),G'.vf t j=k→k < c.ns.length∧t≤tmO c i x k
 vg:∀t j (k:Nat),G'.vf t j=k→Vt G' t k j
 wt:∀t,G'.ex t→t≤tmO c i x (G'.who t)
 ms:∀e∈sent,MI c.ns.length G' (yk e.A)∧(yk e.A).frm.toNat=i∧(yk e.A).term≤x.term
theorem zKt{c:CL}{i:Nat}{x y:ND}(h:x.term≤y.term)(k:Nat):tmO c i x k≤tmO c i y k:=by
 unfold tmO;split<;>omega
theorem y0{c:CL}{i:Nat}{x:ND}:tmO c i x i=x.term:=if_pos rfl
theorem RI.pt{c:CL}{G:Gh}(h:RI c G){i:Nat}(hi:i < c.ns.length):Pt c i G G (yH c.ns i) []:=by
 have e:∀k,tmO c i (yH c.ns i) k=(yH c.ns k).term:=fun k=>by
  unfold tmO;split
  ·rename_i q;rw[q]
  ·rfl
 exact⟨Ext.refl _ _ _,h.g,h.nd i hi,Int.le_refl _,fun t j k hk=>by rw[e];exact h.vc t j k hk,h.vg,fun t ht=>by rw[e];exact h.wt t ht,fun e he=>by simp at he⟩
theorem Pt.go{c:CL}{i:Nat}{G G1 G2:Gh}{x y:ND}{sent new:List PV}(h:Pt c i G G1 x sent)(hE:Ext G1 G2 i x.term)(hg:GI c.ns.length G2)(hy:NI c.ns.length G2 i y)(ht:x.term≤y.term)
  (hv:∀t (k:Nat),G2.vf t i=k→G1.vf t i≠k→k < c.ns.length∧t≤tmO c i y k∧Vt G2 t k i) (hw:∀t,G2.ex t→¬G1.ex t→t≤y.term)
  (hn:∀e∈new,MI c.ns.length G2 (yk e.A)∧(yk e.A).frm.toNat=i∧(yk e.A).term≤y.term):Pt c i G G2 y (sent++new):=by
 have hTk:∀t j,G1.vf t j=(i:Int)→t≤x.term:=fun t j q=>by have:=(h.vc t j i q).2;rwa[y0] at this
 have hTv:∀t,G1.vf t i≠-1→t≤x.term:=fun t q=>Decidable.byContradiction fun n=>q (h.nd.vn t (by omega))
 have old:∀t j (k:Nat),G1.vf t j=k→Vt G2 t k j:=fun t j k hk=>
  hE.vt h.g (fun e=>hTk t j (by rw[hk,e])) (fun e=>hTv t (by rw[←e,hk];omega)) (h.vg t j k hk)
 have hsame:∀t j (k:Nat),G2.vf t j=k→G1.vf t j=k∨(j=i∧G1.vf t i≠k):=fun t j k hk=>by
  by_cases e:j=i
  ·subst e
   by_cases q:G1.vf t j=k
   ·exact .inl q
   ·exact .inr ⟨rfl,q⟩
  ·left;rw[←(hE.vo t j e).1];exact hk
 refine⟨h.E.trans (hE.le h.t),hg,hy,by have:=h.t;omega,fun t j k hk=>?_,fun t j k hk=>?_,fun t he=>?_,fun e he=>?_⟩
 ·rcases hsame t j k hk with q | ⟨rfl,q⟩
  ·obtain⟨a,b⟩:=h.vc t j k q
   exact⟨a,Int.le_trans b (zKt ht k)⟩
  ·obtain⟨a,b,_⟩:=hv t k hk q
   exact⟨a,b⟩
 ·rcases hsame t j k hk with q | ⟨rfl,q⟩
  ·exact old t j k q
  ·exact(hv t k hk q).2.2
 ·by_cases q:G1.ex t
  ·rw[(hE.ex t q).2.1]
   exact Int.le_trans (h.wt t q) (zKt ht _)
  ·rw[hE.new t he q,y0]
   exact hw t he q
 ·rcases List.mem_append.1 he with q | q
  ·obtain⟨a1,a2,a3⟩:=h.ms e q
   exact⟨hE.mi h.g a1 (fun _=>a3) hTk hTv,a2,by omega⟩
  ·exact hn e q
theorem Pt.st{c:CL}{i:Nat}{G G1:Gh}{x y:ND}{sent new:List PV}(h:Pt c i G G1 x sent)(hy:NI c.ns.length G1 i y)(ht:x.term≤y.term)
  (hn:∀e∈new,MI c.ns.length G1 (yk e.A)∧(yk e.A).frm.toNat=i∧(yk e.A).term≤y.term):Pt c i G G1 y (sent++new):=
 h.go (Ext.refl _ _ _) h.g hy ht (fun _ _ q q'=>absurd q q') (fun _ q q'=>absurd q q') hn
theorem zD5{ns:List PV}{i:Nat}{x:ND}(hi:i < ns.length)(j:Nat):yH (ns.set i x.pv) j=if j=i then x else yH ns j:=by
 unfold yH
 split
 ·rename_i e;rw[e,zDG hi];rfl
 ·rename_i e;rw[zDf fun q=>e q.symm]
theorem Pt.put{c:CL}{i:Nat}{G G':Gh}{x:ND}{sent:List PV}(p:Pt c i G G' x sent)(h:RI c G)(hi:i < c.ns.length){ss ws ds:List PV}(hC:ClI ⟨c.ns.set i x.pv,ss,ws,ds⟩)(hR:RtI ⟨c.ns.set i x.pv,ss,ws,ds⟩)
  (hw:∀e∈ws,e∈c.ws∨e∈sent) (hcd:x.com≤ds.length) (hdl:c.ds.length≤ds.length) (hd:DI c.ns.length G' ds):RI ⟨c.ns.set i x.pv,ss,ws,ds⟩ G':=by
 have hl:(c.ns.set i x.pv).length=c.ns.length:=by simp
 have hTk:∀t j,G.vf t j=(i:Int)→t≤(yH c.ns i).term:=fun t j q=>(h.vc t j i q).2
 have hTv:∀t,G.vf t i≠-1→t≤(yH c.ns i).term:=fun t q=>Decidable.byContradiction fun n=>q ((h.nd i hi).vn t (by omega))
 have hto:∀k,(yH (c.ns.set i x.pv) k).term=tmO c i x k:=fun k=>by
  rw[zD5 hi];unfold tmO;split<;>rfl
 refine⟨hC,hR,by rw[hl];exact p.g,fun j hj=>?_,fun e he=>?_,fun t j k hk=>?_,p.vg,fun t ht=>?_,fun j hj=>?_,by rw[hl];exact hd⟩
 ·simp only[hl] at hj ⊢
  rw[zD5 hi]
  split
  ·rename_i e;rw[e];exact p.nd
  ·rename_i e;exact p.E.ni h.g e (h.nd j hj) (fun t k=>hTk t k) hTv
 ·simp only[hl]
  rw[hto]
  rcases hw e he with q | q
  ·obtain⟨a1,a2⟩:=h.ms e q
   refine⟨p.E.mi h.g a1 (fun e'=>by rw[e'] at a2;exact a2) hTk hTv,Int.le_trans a2 ?_⟩
   unfold tmO;split
   ·rename_i e';rw[e'];exact p.t
   ·exact Int.le_refl _
  ·obtain⟨a1,a2,a3⟩:=p.ms e q
   exact⟨a1,by rw[a2,y0];exact a3⟩
 ·simp only[hl]
  rw[hto]
  exact p.vc t j k hk
 ·rw[hto];exact p.wt t ht
 ·simp only[hl] at hj
  rw[zD5 hi]
  split
  ·exact hcd
  ·have:=h.cd j hj
   simp only;omega
theorem zMy(ds log:List PV)(com:Int):ds.length≤(zFi ds log com).length:=by unfold zFi;simp
theorem zKc{ds log:List PV}{com:Int}(h:com≤log.length):com≤(zFi ds log com).length:=by
 unfold zFi
 simp only[List.length_append,List.length_map,List.length_drop,List.length_take]
 omega
theorem DI.add{n:Nat}{G:Gh}(hg:GI n G){ds log:List PV}{com t:Int}(hd:DI n G ds)(hk:Kn n G t log com.toNat)(hl:com≤log.length):DI n G (zFi ds log com):=by
 by_cases hc:com≤ds.length
 ·have:zFi ds log com=ds:=by
   unfold zFi
   rw[List.drop_eq_nil_of_le (by rw[List.length_take];omega)]
   simp
  rw[this];exact hd
 ·rcases hk with q | ⟨s,m,k1,k2,k3,k4⟩
  ·omega
  ·right
   have hm:=k2.kl
   have e:zFi ds log com=((G.ll s).take com.toNat).map zKW:=by
    have e1:(zFi ds log com)=ds++(((G.ll s).take com.toNat).drop ds.length).map zKW:=by
     unfold zFi;rw[k4];rfl
    have e2:ds=((G.ll s).take ds.length).map zKW:=by
     rcases hd with q | ⟨u,k,d1,d2,d3⟩
     ·simp[q]
     ·rw[hg.cm_cm k2 d1 (m:=ds.length) (by omega) d2];exact d3
    rw[e1]
    conv=>lhs;lhs;rw[e2]
    rw[←List.map_append]
    congr 1
    have:(G.ll s).take ds.length=((G.ll s).take com.toNat).take ds.length:=by rw[List.take_take,Nat.min_eq_left (by omega)]
    rw[this,List.take_append_drop]
   refine⟨s,m,k2,?_,?_⟩
   ·rw[e];simp only[List.length_map,List.length_take];omega
   ·rw[e]
    simp only[List.length_map,List.length_take]
    rw[Nat.min_eq_left (by omega)]
end
section
variable [zS]
theorem zPz{t:Int}{l:List PV}(h:zMR t l):zSm l:=fun i j hij hj=>(h j hj).2 i hij
theorem NdF.mon{x:ND}(h:NdF x):zSm x.log:=zPz (zKP h.en)
theorem NdF.et{x:ND}(h:NdF x):∀e∈x.log,eT e≤x.term:=fun e he=>(zGR h.en e he).2.2
theorem GI.go{n:Nat}{G G':Gh}{i:Nat}{T:Int}(h:GI n G)(hE:Ext G G' i T)(hv:∀t,G.vf t i≠-1→t≤T)(hw:∀t,G.ex t→G.who t=i→t≤T)
  (old:∀t,G.ex t→∃r,G'.ll t=G.ll t++r∧∀e∈r,eT e=t)
  (no:∀t,¬G'.ex t→G'.ll t=[]∧G'.el t=[])
  (new:∀t,G'.ex t→¬G.ex t→(∃r,G'.ll t=G'.el t++r∧∀e∈r,eT e=t)∧(∀e∈G'.el t,eT e < t)∧1≤t∧i < n∧G'.el t=G'.cl t i∧Maj n fun j=>G'.vf t j=i∧UD (G'.cl t i) (G'.vl t j)∧V3 G' t j)
  (lpl:∀t,G'.ll t=G.ll t∨LP G'.ll (G'.ll t))
  (lpc:∀t,G'.cl t i=G.cl t i∨LP G'.ll (G'.cl t i)∧∀e∈G'.cl t i,eT e < t)
  (lpv:∀t,G'.vl t i=G.vl t i∨LP G'.ll (G'.vl t i)∧zSm (G'.vl t i))
  (akl:∀t,G'.ak t i≤(G'.ll t).length):GI n G':=by
 refine⟨no,fun t=>?_,fun t=>?_,fun t=>?_,fun t c=>?_,fun t c=>?_,fun t j=>?_,fun t j=>?_,fun t ht=>?_,fun t j=>?_⟩
 ·by_cases q:G.ex t
  ·obtain⟨r,r1,r2⟩:=old t q
   obtain⟨s,s1,s2⟩:=h.pre t
   refine⟨s++r,by rw[r1,s1,(hE.ex t q).2.2,List.append_assoc],fun e he=>?_⟩
   rcases List.mem_append.1 he with q | q
   ·exact s2 e q
   ·exact r2 e q
  ·by_cases q':G'.ex t
   ·exact(new t q' q).1
   ·obtain⟨a,b⟩:=no t q'
    exact⟨[],by rw[a,b];rfl,by simp⟩
 ·by_cases q:G.ex t
  ·rw[(hE.ex t q).2.2];exact h.elt t
  ·by_cases q':G'.ex t
   ·exact(new t q' q).2.1
   ·rw[(no t q').2];simp
 ·rcases lpl t with q | q
  ·rw[q];exact hE.lp (h.lpl t)
  ·exact q
 ·by_cases e:c=i
  ·subst e
   rcases lpc t with q | q
   ·rw[q];exact hE.lp (h.lpc t c)
   ·exact q.1
  ·rw[hE.co t c e];exact hE.lp (h.lpc t c)
 ·by_cases e:c=i
  ·subst e
   rcases lpc t with q | q
   ·rw[q];exact h.clt t c
   ·exact q.2
  ·rw[hE.co t c e];exact h.clt t c
 ·by_cases e:j=i
  ·subst e
   rcases lpv t with q | q
   ·rw[q];exact hE.lp (h.lpv t j)
   ·exact q.1
  ·rw[(hE.vo t j e).2.1];exact hE.lp (h.lpv t j)
 ·by_cases e:j=i
  ·subst e
   rcases lpv t with q | q
   ·rw[q];exact h.mov t j
   ·exact q.2
  ·rw[(hE.vo t j e).2.1];exact h.mov t j
 ·by_cases q:G.ex t
  ·obtain⟨a1,a2,a3⟩:=hE.ex t q
   obtain⟨b1,b2,b3,b4⟩:=h.maj t q
   have ec:G'.cl t (G.who t)=G.cl t (G.who t):=hE.cl fun e=>hw t q e
   refine⟨b1,by rw[a2];exact b2,by rw[a3,a2,ec];exact b3,b4.mono fun j _ hj=>?_⟩
   obtain⟨c1,c2,c3⟩:=hj
   have hne:G.vf t j≠-1:=by rw[c1];omega
   have hT:j=i→t≤T:=fun e=>hv t (by rw[←e];exact hne)
   have hs:G'.vf t j=G.vf t j∧G'.vl t j=G.vl t j:=by
    by_cases e:j=i
    ·subst e;exact hE.vi t hne
    ·exact⟨(hE.vo t j e).1,(hE.vo t j e).2.1⟩
   exact⟨by rw[hs.1,a2,c1],by rw[a2,ec,hs.2];exact c2,hE.v3 h hne hT c3⟩
  ·obtain⟨_,_,n1,n2,n3,n4⟩:=new t ht q
   have:=hE.new t ht q
   rw[this]
   exact⟨n1,n2,n3,n4⟩
 ·by_cases e:j=i
  ·subst e;exact akl t
  ·rw[(hE.vo t j e).2.2]
   exact Nat.le_trans (h.akl t j) (hE.len t)
theorem NI.v3{n:Nat}{G:Gh}{i:Nat}{x:ND}(hx:NI n G i x){t:Int}(ht:x.term≤t)(hn:¬G.ex t){s:Int}(hs:s < t){k:Nat}(hk:k≤G.ak s i):x.log.take k=(G.ll s).take k∨∃r,s < r∧r < t∧G.ex r∧Dis G s r k:=by
 rcases hx.ab s k hk with q | ⟨r,r1,r2,r3,r4⟩
 ·exact .inl q
 ·refine .inr ⟨r,r1,?_,r3,r4⟩
  by_cases e:r=t
  ·rw[e] at r3;exact absurd r3 hn
  ·omega
def Gh.stand(G:Gh)(t:Int)(i:Nat)(l:List PV):Gh:=
 { G with cl:=fun s j=>if s=t∧j=i then l else G.cl s j,vf:=fun s j=>if s=t∧j=i then (i:Int) else G.vf s j,vl:=fun s j=>if s=t∧j=i then l else G.vl s j }
def Gh.vote(G:Gh)(t:Int)(i:Nat)(c:Int)(l:List PV):Gh:=
 { G with vf:=fun s j=>if s=t∧j=i then c else G.vf s j,vl:=fun s j=>if s=t∧j=i then l else G.vl s j }
def Gh.lead(G:Gh)(t:Int)(i:Nat)(e l:List PV):Gh:=
 { G with ex:=fun s=>s=t∨G.ex s,who:=fun s=>if s=t then i else G.who s,el:=fun s=>if s=t then e else G.el s,ll:=fun s=>if s=t then l else G.ll s,ak:=fun s j=>if s=t∧j=i then l.length else G.ak s j }
def Gh.ack(G:Gh)(t:Int)(i:Nat)(k:Nat):Gh:={ G with ak:=fun s j=>if s=t∧j=i∧G.ak s j≤k then k else G.ak s j }
def Gh.grow(G:Gh)(t:Int)(i:Nat)(l:List PV):Gh:=
 { G with ll:=fun s=>if s=t then l else G.ll s,ak:=fun s j=>if s=t∧j=i then l.length else G.ak s j }
theorem Pt.stand{c:CL}{i:Nat}{G G1:Gh}{x:ND}{sent:List PV}(h:Pt c i G G1 x sent)(hi:i < c.ns.length)(hF:NdF x)(hid:x.id=i)(d:Int) :
  Pt c i G (G1.stand (x.term+1) i x.log) (zBf x d) (sent++[]):=by
 have hTv:∀t,G1.vf t i≠-1→t≤x.term:=fun t q=>Decidable.byContradiction fun n=>q (h.nd.vn t (by omega))
 have hTw:∀t,G1.ex t→G1.who t=i→t≤x.term:=fun t q e=>by have:=h.wt t q;rwa[e,y0] at this
 have hE:Ext G1 (G1.stand (x.term+1) i x.log) i x.term:=by
  refine⟨fun t q=>⟨q,rfl,rfl⟩,fun t q q'=>absurd q q',fun t=>⟨[],by simp[Gh.stand]⟩,fun _ _ _=>rfl,fun t j hj=>?_,fun t hv=>?_,fun _=>Nat.le_refl _,fun _ _=>rfl,fun t j hj=>?_,fun t ht=>?_⟩
  ·simp[Gh.stand,hj]
  ·have:=hTv t hv
   simp only[Gh.stand]
   rw[if_neg (by omega),if_neg (by omega)]
   exact⟨rfl,rfl⟩
  ·simp[Gh.stand,hj]
  ·simp only[Gh.stand];rw[if_neg (by omega)]
 have hv0:∀t,¬t=x.term+1→(G1.stand (x.term+1) i x.log).vf t i=G1.vf t i:=fun t q=>by simp[Gh.stand,q]
 have hv1:(G1.stand (x.term+1) i x.log).vf (x.term+1) i=i:=by simp[Gh.stand]
 have hl1:(G1.stand (x.term+1) i x.log).vl (x.term+1) i=x.log:=by simp[Gh.stand]
 have hc1:(G1.stand (x.term+1) i x.log).cl (x.term+1) i=x.log:=by simp[Gh.stand]
 have het:=hF.et
 have hg:GI c.ns.length (G1.stand (x.term+1) i x.log):=by
  refine h.g.go hE hTv hTw (fun t _=>⟨[],by simp[Gh.stand],by simp⟩) (fun t q=>h.g.nex t q) (fun t q q'=>absurd q q') (fun t=>.inl rfl) (fun t=>?_) (fun t=>?_) (fun t=>h.g.akl t i)
  ·by_cases e:t=x.term+1
   ·subst e
    right
    rw[hc1]
    exact⟨h.nd.lp,fun e he=>by have:=het e he;omega⟩
   ·left;simp[Gh.stand,e]
  ·by_cases e:t=x.term+1
   ·subst e
    right
    rw[hl1]
    exact⟨h.nd.lp,hF.mon⟩
   ·left;simp[Gh.stand,e]
 have hvt:Vt (G1.stand (x.term+1) i x.log) (x.term+1) i i:=by
  refine⟨hv1,by rw[hc1,hl1];exact .inr ⟨rfl,Nat.le_refl _⟩,fun hn s hs k hk=>?_⟩
  rw[hl1]
  exact h.nd.v3 (by omega) hn hs hk
 have hN:NI c.ns.length (G1.stand (x.term+1) i x.log) i (zBf x d):=by
  refine⟨h.nd.lp,?_,fun t ht=>?_,fun t ht=>h.nd.an t (by have:x.term+1 < t:=ht;omega),fun t k hk=>?_,hE.kn (by show x.term≤x.term+1;omega) h.nd.kn,fun hr=>?_,fun _=>⟨hc1.symm,fun v hv=>?_,fun⟨q1,q2⟩=>?_⟩⟩
  ·show x.id=_
   rw[hid];exact hv1.symm
  ·have ht:x.term+1 < t:=ht
   rw[hv0 t (by omega)]
   exact h.nd.vn t (by omega)
  ·rcases h.nd.ab t k hk with q | ⟨r,r1,r2,r3,r4⟩
   ·exact .inl q
   ·exact .inr ⟨r,r1,by show r≤x.term+1;omega,r3,r4⟩
  ·exact absurd (show(1:Int)=2 from hr) (by omega)
  ·have:v=.int .i64 x.id:=by simpa[zBf] using hv
   exact⟨i,by rw[this];exact hid,hi,hvt⟩
  ·have:=hTw (x.term+1) q1 q2
   omega
 refine h.go hE hg hN (by show x.term≤x.term+1;omega) (fun t k hk hk'=>?_) (fun t q q'=>absurd q q') (fun e he=>by simp at he)
 by_cases e:t=x.term+1
 ·subst e
  rw[hv1] at hk
  have:k=i:=by omega
  subst this
  exact⟨hi,by rw[y0];exact Int.le_refl _,hvt⟩
 ·rw[hv0 t e] at hk;exact absurd hk hk'
theorem Pt.vote{c:CL}{i:Nat}{G G1:Gh}{x:ND}{sent:List PV}(h:Pt c i G G1 x sent)(hF:NdF x){k:Nat}(hk:k < c.ns.length)(hki:k≠i)(h0:x.vote=-1)(ht:x.term≤(yH c.ns k).term)(hu:UD (G1.cl x.term k) x.log){y:ND}
  (y1:y.term=x.term) (y2:y.vote=k) (y3:y.log=x.log) (y4:y.com=x.com) (y5:y.role=x.role) (y6:y.vs=x.vs) (y7:y.ms=x.ms) :
  Pt c i G (G1.vote x.term i k x.log) y (sent++[]):=by
 have hv:=h.nd.vt
 rw[h0] at hv
 have hTv:∀t,G1.vf t i≠-1→t≤x.term:=fun t q=>Decidable.byContradiction fun n=>q (h.nd.vn t (by omega))
 have hTw:∀t,G1.ex t→G1.who t=i→t≤x.term:=fun t q e=>by have:=h.wt t q;rwa[e,y0] at this
 have hE:Ext G1 (G1.vote x.term i k x.log) i x.term:=by
  refine⟨fun t q=>⟨q,rfl,rfl⟩,fun t q q'=>absurd q q',fun t=>⟨[],by simp[Gh.vote]⟩,fun _ _ _=>rfl,fun t j hj=>?_,fun t hv'=>?_,fun _=>Nat.le_refl _,fun _ _=>rfl,fun t j hj=>rfl,fun t ht=>rfl⟩
  ·simp[Gh.vote,hj]
  ·have:t≠x.term:=fun e=>hv' (by rw[e];exact hv.symm)
   simp[Gh.vote,this]
 have hv0:∀t,¬t=x.term→(G1.vote x.term i k x.log).vf t i=G1.vf t i:=fun t q=>by simp[Gh.vote,q]
 have hv1:(G1.vote x.term i k x.log).vf x.term i=k:=by simp[Gh.vote]
 have hl1:(G1.vote x.term i k x.log).vl x.term i=x.log:=by simp[Gh.vote]
 have hg:GI c.ns.length (G1.vote x.term i k x.log):=by
  refine h.g.go hE hTv hTw (fun t _=>⟨[],by simp[Gh.vote],by simp⟩) (fun t q=>h.g.nex t q) (fun t q q'=>absurd q q') (fun t=>.inl rfl) (fun t=>.inl rfl) (fun t=>?_) (fun t=>h.g.akl t i)
  by_cases e:t=x.term
  ·subst e
   right
   rw[hl1]
   exact⟨h.nd.lp,hF.mon⟩
  ·left;simp[Gh.vote,e]
 have hvt:Vt (G1.vote x.term i k x.log) x.term k i:=by
  refine⟨hv1,by rw[hl1];exact hu,fun hn s hs m hm=>?_⟩
  rw[hl1]
  exact h.nd.v3 (Int.le_refl _) hn hs hm
 have hTk:∀t j,G1.vf t j=(i:Int)→t≤x.term:=fun t j q=>by have:=(h.vc t j i q).2;rwa[y0] at this
 have hN:NI c.ns.length (G1.vote x.term i k x.log) i y:=by
  refine⟨by rw[y3];exact h.nd.lp,by rw[y1,y2,hv1],fun t q=>?_,fun t q=>h.nd.an t (by omega),fun t m hm=>by rw[y1,y3];exact h.nd.ab t m hm,by rw[y1,y3,y4];exact hE.kn (Int.le_refl _) h.nd.kn,fun hr=>?_,fun hr=>?_⟩
  ·rw[hv0 t (by omega)];exact h.nd.vn t (by omega)
  ·rw[y1,y3,y7];exact h.nd.ld (by rw[←y5];exact hr)
  ·rw[y1,y3,y6]
   obtain⟨c1,c2,c3⟩:=h.nd.cd (by rw[←y5];exact hr)
   refine⟨c1,fun v hv'=>?_,c3⟩
   obtain⟨j,j1,j2,j3⟩:=c2 v hv'
   refine⟨j,j1,j2,hE.vt h.g (fun _=>Int.le_refl _) (fun _=>Int.le_refl _) j3⟩
 refine h.go hE hg hN (by omega) (fun t m hm hm'=>?_) (fun t q q'=>absurd q q') (fun e he=>by simp at he)
 by_cases e:t=x.term
 ·subst e
  rw[hv1] at hm
  have:m=k:=by omega
  subst this
  refine⟨hk,?_,hvt⟩
  unfold tmO
  rw[if_neg hki];exact ht
 ·rw[hv0 t e] at hm;exact absurd hm hm'
end
section
variable [zS]
theorem LP.snoc{ll:Int→List PV}{l r:List PV}{t:Int}(h:LP ll l)(ht:ll t=l++r)(hr:∀e∈r,eT e=t):LP ll (l++r):=by
 intro p hp
 by_cases q:p < l.length
 ·have e1:nth (l++r) p=nth l p:=by simp[nth,List.getElem?_append_left q]
  rw[e1,List.take_append_of_le_length (by omega)]
  exact h p q
 ·have hm:nth (l++r) p∈r:=by
   rw[List.length_append] at hp
   have e1:nth (l++r) p=nth r (p - l.length):=by simp[nth,List.getElem?_append_right (by omega:l.length≤p)]
   rw[e1];exact zb (by omega)
  rw[hr _ hm,ht]
theorem zId{Q:Nat→Bool}{a:Nat}(ha:Q a=false):∀n:Nat,cnB (fun j=>decide (j=a) || Q j) n=cnB Q n+(if a < n then 1 else 0)
 | 0=>by simp[cnB]
 | n+1=>by
  have ih:=zId ha n
  simp only[cnB,ih]
  by_cases e:n=a
  ·subst e;simp[ha]
  ·simp only[e,decide_false,Bool.false_or]
   have:(a < n+1)=(a < n):=by simp only[eq_iff_iff];omega
   simp only[this]
   split<;>split<;>omega
theorem zHq{n:Nat}:∀{vs:List PV} {p:Int},voB n p vs=true→-1≤p→vs.length≤cnB (fun j=>vs.any fun v=>decide (v.I=(j:Int))) n∧∀v∈vs,p < v.I∧v.I < n
 | [],_,_,_=>by simp
 | v :: vs,p,h,hp=>by
  simp only[voB,Bool.and_eq_true,zk,decide_eq_true_eq] at h
  obtain⟨⟨⟨h1,h2⟩,h3⟩,h4⟩:=h
  obtain⟨a1,a2⟩:=zHq h4 (by omega)
  have hf:(fun j:Nat=>vs.any fun w=>decide (w.I=(j:Int))) v.I.toNat=false:=by
   simp only[List.any_eq_false,decide_eq_true_eq]
   intro w hw
   have:=(a2 w hw).1
   omega
  have he:(fun j:Nat=>(v :: vs).any fun w=>decide (w.I=(j:Int)))=fun j=>decide (j=v.I.toNat) || (fun j:Nat=>vs.any fun w=>decide (w.I=(j:Int))) j:=by
   funext j
   rw[List.any_cons]
   congr 1
   rw[decide_eq_decide]
   omega
  refine⟨?_,fun w hw=>?_⟩
  ·rw[he,zId hf,if_pos (by omega),List.length_cons];omega
  ·rcases List.mem_cons.1 hw with rfl | hw
   ·omega
   ·have:=a2 w hw;omega
theorem zKq{n:Nat}{P:Nat→Prop}{vs:List PV}(h:voB n (-1) vs=true)(hm:n < 2*vs.length)(hP:∀v∈vs,∃j:Nat,v.I=j∧P j):Maj n P:=by
 have:=(zHq h (by omega)).1
 refine⟨fun j:Nat=>vs.any fun v=>decide (v.I=(j:Int)),by omega,fun i _ hi=>?_⟩
 simp only[List.any_eq_true,decide_eq_true_eq] at hi
 obtain⟨v,hv,e⟩:=hi
 obtain⟨j,j1,j2⟩:=hP v hv
 have:j=i:=by omega
 rw[←this];exact j2
theorem zIb{id p:Int}{i:Nat}{ms:List PV}(hid:id=i):∀m:Nat,zLr id p ms m+(if i < m then 1 else 0)=1+(cnB (fun j=>decide (j=i) || (decide (¬j=i)&&decide (p≤(nth ms j).I))) m:Nat)
 | 0=>by simp[zLr,cnB]
 | m+1=>by
  have ih:=zIb hid (ms:=ms) (p:=p) m
  rw[zLr]
  simp only[cnB]
  by_cases e:m=i
  ·subst e
   rw[if_neg (by omega)]
   simp only[Nat.lt_irrefl,if_false,decide_true,Bool.true_or,if_true,Nat.lt_succ_self] at ih ⊢
   omega
  ·have e1:(i < m+1)=(i < m):=by simp only[eq_iff_iff];omega
   simp only[e1]
   by_cases q:p≤(nth ms m).I
   ·rw[if_pos ⟨by omega,q⟩]
    simp only[e,q,ne_eq,not_false_iff,decide_true,decide_false,Bool.and_self,Bool.or_true,if_true]
    omega
   ·rw[if_neg (fun h=>q h.2)]
    simp only[e,q,ne_eq,not_false_iff,decide_true,decide_false,Bool.and_false,Bool.or_false,Bool.false_eq_true,if_false]
    omega
theorem zKX{n:Nat}{id p:Int}{i:Nat}{ms:List PV}{P:Nat→Prop}(hid:id=i)(hi:i < n)(hc:(n:Int) < 2*zLr id p ms n)(h1:P i)(h2:∀j,j < n→j≠i→p≤(nth ms j).I→P j):Maj n P:=by
 have:=zIb hid (p:=p) (ms:=ms) n
 rw[if_pos hi] at this
 refine⟨fun j=>decide (j=i) || (decide (¬j=i)&&decide (p≤(nth ms j).I)),by omega,fun j hj hq=>?_⟩
 by_cases e:j=i
 ·rw[e];exact h1
 ·simp only[e,decide_false,Bool.false_or,ne_eq,not_false_iff,decide_true,Bool.true_and,decide_eq_true_eq] at hq
  exact h2 j hj e hq
structure LdI (n:Nat) (G:Gh) (i:Nat) (x:ND):Prop where
 ex:G.ex x.term
 who:G.who x.term=i
 log:x.log=G.ll x.term
 own:(G.ll x.term).length≤G.ak x.term i
 ms:∀j,j < n→j≠i→(nth x.ms j).I≤G.ak x.term j
theorem zGc{n:Nat}{G:Gh}{i:Nat}{x:ND}(hL:LdI n G i x)(hi:i < n)(hid:x.id=i)(hn:x.nodes=n)(hm:x.ms.length=n)(hk:Kn n G x.term x.log x.com.toNat):∀p:Nat,p≤x.log.length→Kn n G x.term x.log (zGi x p).toNat
 | 0,_=>hk
 | p+1,hp=>by
  rw[zGi]
  split
  ·exact hk
  ·split
   ·rename_i h
    obtain⟨h1,h2⟩:=h
    have e1:((p:Int)+1).toNat=p+1:=by omega
    rw[e1]
    have hlg:=hL.log
    rw[hlg] at hp
    refine .inr ⟨x.term,p+1,Int.le_refl _,⟨hL.ex,by omega,hp,?_,?_⟩,Nat.le_refl _,by rw[hlg]⟩
    ·rw[hlg] at h1
     unfold zCI at h1
     rw[if_neg (by omega)] at h1
     have e2:((p:Int)+1 - 1).toNat=p+1 - 1:=by omega
     rw[e2] at h1
     exact h1
    ·rw[hm,hn] at h2
     refine zKX hid hi h2 (Nat.le_trans hp hL.own) fun j hj hne hle=>?_
     have:=hL.ms j hj hne
     omega
   ·exact zGc hL hi hid hn hm hk p (by omega)
theorem Kn.app{n:Nat}{G:Gh}{t:Int}{l r:List PV}{k:Nat}(h:Kn n G t l k)(hk:k≤l.length):Kn n G t (l++r) k:=by
 rcases h with h | ⟨s,m,h1,h2,h3,h4⟩
 ·exact .inl h
 ·exact .inr ⟨s,m,h1,h2,h3,by rw[List.take_append_of_le_length hk];exact h4⟩
theorem Kn.le{n:Nat}{G:Gh}{t:Int}{l:List PV}{k m:Nat}(h:Kn n G t l k)(hm:m≤k):Kn n G t l m:=by
 rcases h with h | ⟨s,q,h1,h2,h3,h4⟩
 ·exact .inl (by omega)
 ·exact .inr ⟨s,q,h1,h2,by omega,zBH h4 hm⟩
theorem zIF(t:Int)(l:List PV):∃r,yq t l=l++r∧∀e∈r,eT e=t:=by
 unfold yq
 split
 ·exact⟨_,rfl,fun e he=>by rw[List.mem_singleton.1 he];rfl⟩
 ·exact⟨[],by simp,by simp⟩
theorem zLS{G:Gh}{s:Int}{k:Nat}{l r:List PV}(hk:k≤(G.ll s).length)(h:l.take k=(G.ll s).take k):(l++r).take k=(G.ll s).take k:=by
 rw[List.take_append_of_le_length (y8 h hk)];exact h
theorem Pt.lead{c:CL}{i:Nat}{G G1:Gh}{x:ND}{sent:List PV}(h:Pt c i G G1 x sent)(hi:i < c.ns.length)(hF:NdF x)(hid:x.id=i)(hn:x.nodes=c.ns.length)(hr:x.role=1)(ht:1≤x.term)(hM:Maj c.ns.length fun j=>Vt G1 x.term i j) :
  Pt c i G (G1.lead x.term i x.log (yq x.term x.log)) (zCm x) (sent++[]):=by
 obtain⟨c1,c2,c3⟩:=h.nd.cd hr
 have hTv:∀t,G1.vf t i≠-1→t≤x.term:=fun t q=>Decidable.byContradiction fun n=>q (h.nd.vn t (by omega))
 have hTw:∀t,G1.ex t→G1.who t=i→t≤x.term:=fun t q e=>by have:=h.wt t q;rwa[e,y0] at this
 have hne:¬G1.ex x.term:=fun q=>by
  obtain⟨_,b2,_,b4⟩:=h.g.maj x.term q
  obtain⟨j,_,j1,j2⟩:=b4.meet hM
  have:=j1.1
  rw[j2.vf] at this
  exact c3 ⟨q,by omega⟩
 obtain⟨n1,n2⟩:=h.g.nex x.term hne
 obtain⟨r,hL,hrt⟩:=zIF x.term x.log
 have hex:∀t,G1.ex t→t≠x.term:=fun t q e=>hne (by rw[←e];exact q)
 have hE:Ext G1 (G1.lead x.term i x.log (yq x.term x.log)) i x.term:=by
  refine⟨fun t q=>⟨.inr q,?_,?_⟩,fun t q q'=>?_,fun t=>?_,fun t q _=>?_,fun t j hj=>⟨rfl,rfl,?_⟩,fun t hv=>⟨rfl,rfl⟩,fun t=>?_,fun t q=>?_,fun _ _ _=>rfl,fun _ _=>rfl⟩
  ·simp[Gh.lead,hex t q]
  ·simp[Gh.lead,hex t q]
  ·rcases q with q | q
   ·simp[Gh.lead,q]
   ·exact absurd q q'
  ·by_cases e:t=x.term
   ·subst e
    exact⟨yq x.term x.log,by simp[Gh.lead,n1]⟩
   ·exact⟨[],by simp[Gh.lead,e]⟩
  ·simp[Gh.lead,hex t q]
  ·simp[Gh.lead,hj]
  ·simp only[Gh.lead]
   split
   ·rename_i q
    rw[q.1]
    have:=h.g.akl x.term i
    rw[n1] at this;simp at this;omega
   ·exact Nat.le_refl _
  ·simp only[Gh.lead];rw[if_neg (by omega)]
 have el1:(G1.lead x.term i x.log (yq x.term x.log)).ll x.term=x.log++r:=by simp[Gh.lead,hL]
 have el2:(G1.lead x.term i x.log (yq x.term x.log)).el x.term=x.log:=by simp[Gh.lead]
 have el3:(G1.lead x.term i x.log (yq x.term x.log)).who x.term=i:=by simp[Gh.lead]
 have el4:(G1.lead x.term i x.log (yq x.term x.log)).ak x.term i=(x.log++r).length:=by simp[Gh.lead,hL]
 have el0:∀t,t≠x.term→(G1.lead x.term i x.log (yq x.term x.log)).ll t=G1.ll t∧(G1.lead x.term i x.log (yq x.term x.log)).el t=G1.el t∧(G1.lead x.term i x.log (yq x.term x.log)).ak t i=G1.ak t i:=fun t e=>by simp[Gh.lead,e]
 have hlp:LP (G1.lead x.term i x.log (yq x.term x.log)).ll (x.log++r):=(hE.lp h.nd.lp).snoc el1 hrt
 have hg:GI c.ns.length (G1.lead x.term i x.log (yq x.term x.log)):=by
  refine h.g.go hE hTv hTw (fun t q=>⟨[],by rw[(el0 t (hex t q)).1];simp,by simp⟩) (fun t q=>?_) (fun t q q'=>?_) (fun t=>?_) (fun t=>.inl rfl) (fun t=>.inl rfl) (fun t=>?_)
  ·have e:t≠x.term:=fun e=>q (.inl e)
   rw[(el0 t e).1,(el0 t e).2.1]
   exact h.g.nex t fun q'=>q (.inr q')
  ·have e:t=x.term:=by
    rcases q with q | q
    ·exact q
    ·exact absurd q q'
   subst e
   refine⟨⟨r,by rw[el1,el2],hrt⟩,?_,ht,hi,?_,hM.mono fun j _ hj=>⟨hj.vf,hj.ud,?_⟩⟩
   ·rw[el2,c1];exact h.g.clt _ _
   ·rw[el2];exact c1
   ·exact hE.v3 h.g (by rw[hj.vf];omega) (fun _=>Int.le_refl _) (hj.v3 hne)
  ·by_cases e:t=x.term
   ·subst e;right;rw[el1];exact hlp
   ·left;exact(el0 t e).1
  ·by_cases e:t=x.term
   ·subst e;rw[el4,el1];exact Nat.le_refl _
   ·rw[(el0 t e).2.2,(el0 t e).1];exact h.g.akl t i
 have hl:(zCm x).log=x.log++r:=hL
 have hLd:LdI c.ns.length (G1.lead x.term i x.log (yq x.term x.log)) i (zD6 x):=by
  refine⟨.inl rfl,el3,by rw[show(zD6 x).term=x.term from rfl,el1];exact hL,by show _≤(G1.lead x.term i x.log (yq x.term x.log)).ak x.term i;rw[el4];show((G1.lead x.term i x.log (yq x.term x.log)).ll x.term).length≤_;rw[el1];exact Nat.le_refl _,fun j hj hne=>?_⟩
  have:nth (zD6 x).ms j=.int .i64 0:=zJL (by omega)
  rw[this]
  show(0:Int)≤_
  omega
 have hcm:x.com.toNat≤x.log.length:=by have:=hF.c1;omega
 have hk0:Kn c.ns.length (G1.lead x.term i x.log (yq x.term x.log)) x.term (x.log++r) x.com.toNat:=(hE.kn (Int.le_refl _) h.nd.kn).app hcm
 have hN:NI c.ns.length (G1.lead x.term i x.log (yq x.term x.log)) i (zCm x):=by
  refine⟨by rw[hl];exact hlp,h.nd.vt,h.nd.vn,fun t q=>?_,fun t k hk=>?_,?_,fun _=>⟨.inl rfl,el3,?_,hLd.own,hLd.ms⟩,fun q=>absurd (show(2:Int)=1 from q) (by omega)⟩
  ·have q:x.term < t:=q
   rw[(el0 t (by omega)).2.2];exact h.nd.an t q
  ·rw[hl]
   by_cases e:t=x.term
   ·subst e;left;rw[el1]
   ·rw[(el0 t e).2.2] at hk
    have hkl:=Nat.le_trans hk (h.g.akl t i)
    rcases h.nd.ab t k hk with q | ⟨s,r1,r2,r3,r4⟩
    ·left;rw[(el0 t e).1];exact zLS hkl q
    ·exact .inr ⟨s,r1,r2,.inr r3,hE.dis hkl r3 r4⟩
  ·have hk1:Kn c.ns.length (G1.lead x.term i x.log (yq x.term x.log)) (zD6 x).term (zD6 x).log (zD6 x).com.toNat:=by
    show Kn _ _ x.term (yq x.term x.log) x.com.toNat
    have q:=hk0
    rw[←hL] at q;exact q
   exact zGc hLd hi hid hn (by show(List.replicate x.nodes.toNat _).length=_;rw[List.length_replicate];omega) hk1 _ (Nat.le_refl _)
  ·show(zCm x).log=_
   rw[hl];exact el1.symm
 refine h.go hE hg hN (Int.le_refl _) (fun t k q q'=>absurd q q') (fun t q q'=>?_) (fun e he=>by simp at he)
 rcases q with q | q
 ·rw[q];exact Int.le_refl _
 ·exact absurd q q'
end
section
variable [zS]
theorem LP.same{ll:Int→List PV}{a b:List PV}(ha:LP ll a)(hb:LP ll b){p:Nat}(h1:p < a.length)(h2:p < b.length)(h:eT (nth a p)=eT (nth b p)):a.take (p+1)=b.take (p+1):=by
 rw[ha p h1,hb p h2,h]
theorem zDg{ll:Int→List PV}{log l:List PV}(ha:LP ll log)(hb:LP ll l):∀(es:List PV) (k:Nat),k≤log.length→log.take k=l.take k→k+es.length≤l.length→es=(l.drop k).take es.length →
  (zAD log k es=log∧log.take (k+es.length)=l.take (k+es.length))∨∃p,p < k+es.length∧zAD log k es=l.take (k+es.length)∧log.take p=l.take p∧(log.length≤p∨eT (nth log p)≠eT (nth l p))
 | [],k,_,h,_,_=>.inl ⟨rfl,h⟩
 | e :: es,k,hk,h,hl,he=>by
  simp only[List.length_cons] at hl he ⊢
  have hkl:k < l.length:=by omega
  rw[zG hkl,List.take_succ_cons] at he
  obtain⟨e1,e2⟩:=List.cons.inj he
  rw[zAD]
  split
  ·rename_i q
   have h2:=ha.same hb q.1 hkl (by rw[←e1];exact q.2)
   have:=zDg ha hb es (k+1) (by omega) h2 (by omega) e2
   have e3:k+1+es.length=k+(es.length+1):=by omega
   rw[e3] at this
   exact this
  ·rename_i q
   refine .inr ⟨k,by omega,?_,h,?_⟩
   ·rw[h]
    have:l.take (k+(es.length+1))=l.take k++(l.drop k).take (es.length+1):=List.take_add
    rw[this,zG hkl,List.take_succ_cons,←e1,←e2]
   ·by_cases q1:k < log.length
    ·right;intro q2;exact q ⟨q1,by rw[e1];exact q2⟩
    ·left;omega
structure Tk (l log X:List PV) (p:Nat):Prop where
 m:∃m,p≤m∧m≤l.length∧X=l.take m
 e:log.take p=l.take p
 d:log.length≤p∨eT (nth log p)≠eT (nth l p)
theorem zHs{n:Nat}{G:Gh}{i:Nat}{x:ND}(hg:GI n G)(hx:NI n G i x)(he:G.ex x.term){X:List PV}{p:Nat}(hT:Tk (G.ll x.term) x.log X p){t:Int}{k:Nat}(hk:k≤G.ak t i):X.take k=(G.ll t).take k∨∃r,t < r∧r≤x.term∧G.ex r∧Dis G t r k:=by
 have hkl:=Nat.le_trans hk (hg.akl t i)
 rcases hx.ab t k hk with q | q
 ·obtain⟨m,m1,m2,m3⟩:=hT.m
  by_cases hp:k≤p
  ·left
   rw[←q,m3,List.take_take,Nat.min_eq_left (by omega)]
   exact(zBH hT.e hp).symm
  ·right
   have hll:=y8 q hkl
   have hd:eT (nth x.log p)≠eT (nth (G.ll x.term) p):=by
    rcases hT.d with d | d
    ·omega
    ·exact d
   have hlt:t < x.term:=by
    apply Classical.byContradiction
    intro hn
    by_cases e:t=x.term
    ·rw[e] at q
     exact hd (by rw[yx q (by omega)])
    ·have:=hx.an t (by omega);omega
   refine⟨x.term,hlt,Int.le_refl _,he,fun hq=>?_⟩
   have h1:=y8 hq hkl
   have h2:=hg.el_ll x.term h1
   rw[hq,←q] at h2
   exact hd (by rw[yx h2 (by omega)])
 ·exact .inr q
theorem zMD{n:Nat}{G:Gh}{t:Int}{log X:List PV}{p k:Nat}(hg:GI n G)(he:G.ex t)(hk:Kn n G t log k)(hl:k≤log.length)(hT:Tk (G.ll t) log X p):Kn n G t X k:=by
 rcases hk with h | ⟨s,m,h1,h2,h3,h4⟩
 ·exact .inl h
 ·obtain⟨m',m1,m2,m3⟩:=hT.m
  have h5:=hg.cm_ll h2 he h1
  have h6:log.take k=(G.ll t).take k:=by rw[h4];exact(zBH h5 h3).symm
  have hp:k≤p:=by
   apply Classical.byContradiction
   intro hn
   rcases hT.d with d | d
   ·omega
   ·exact d (by rw[yx h6 (by omega)])
  exact .inr ⟨s,m,h1,h2,h3,by rw[m3,List.take_take,Nat.min_eq_left (by omega),←h6];exact h4⟩
theorem Pt.ack{c:CL}{i:Nat}{G G1:Gh}{x:ND}{sent:List PV}(h:Pt c i G G1 x sent)(he:G1.ex x.term){X:List PV}{q:Nat}(hq:q≤(G1.ll x.term).length)(hX:LP G1.ll X)(hXq:X.take q=(G1.ll x.term).take q)
  (hab:∀t k,k≤G1.ak t i→X.take k=(G1.ll t).take k∨∃r,t < r∧r≤x.term∧G1.ex r∧Dis G1 t r k) {y:ND} (y1:y.term=x.term) (y2:y.vote=x.vote) (y3:y.log=X) (y4:Kn c.ns.length G1 x.term X y.com.toNat) (y5:y.role=0) :
  Pt c i G (G1.ack x.term i q) y (sent++[]):=by
 have hTv:∀t,G1.vf t i≠-1→t≤x.term:=fun t q=>Decidable.byContradiction fun n=>q (h.nd.vn t (by omega))
 have hTw:∀t,G1.ex t→G1.who t=i→t≤x.term:=fun t q e=>by have:=h.wt t q;rwa[e,y0] at this
 have a0:∀t,t≠x.term→(G1.ack x.term i q).ak t i=G1.ak t i:=fun t e=>by simp[Gh.ack,e]
 have a1:(G1.ack x.term i q).ak x.term i=if G1.ak x.term i≤q then q else G1.ak x.term i:=by
  simp only[Gh.ack,true_and]
 have hE:Ext G1 (G1.ack x.term i q) i x.term:=by
  refine⟨fun t q=>⟨q,rfl,rfl⟩,fun t q q'=>absurd q q',fun t=>⟨[],by simp[Gh.ack]⟩,fun _ _ _=>rfl,fun t j hj=>⟨rfl,rfl,by simp[Gh.ack,hj]⟩,fun t _=>⟨rfl,rfl⟩,fun t=>?_,fun t ht=>a0 t (by omega),fun _ _ _=>rfl,fun _ _=>rfl⟩
  by_cases e:t=x.term
  ·rw[e,a1];split<;>omega
  ·rw[a0 t e];exact Nat.le_refl _
 have hg:GI c.ns.length (G1.ack x.term i q):=by
  refine h.g.go hE hTv hTw (fun t _=>⟨[],by simp[Gh.ack],by simp⟩) (fun t q=>h.g.nex t q) (fun t q q'=>absurd q q') (fun t=>.inl rfl) (fun t=>.inl rfl) (fun t=>.inl rfl) (fun t=>?_)
  have:=h.g.akl t i
  by_cases e:t=x.term
  ·rw[e,a1]
   rw[e] at this
   show _≤(G1.ll x.term).length
   split<;>omega
  ·rw[a0 t e];exact this
 have hN:NI c.ns.length (G1.ack x.term i q) i y:=by
  refine⟨by rw[y3];exact hX,by rw[y1,y2];exact h.nd.vt,fun t ht=>h.nd.vn t (by omega),fun t ht=>by rw[a0 t (by omega)];exact h.nd.an t (by omega),fun t k hk=>?_,by rw[y1,y3];exact hE.kn (Int.le_refl _) y4,fun hr=>by omega,fun hr=>by omega⟩
  rw[y1,y3]
  by_cases hk':k≤G1.ak t i
  ·exact hab t k hk'
  ·by_cases e:t=x.term
   ·subst e
    rw[a1] at hk
    left
    refine zBH hXq ?_
    split at hk<;>omega
   ·rw[a0 t e] at hk;exact absurd hk hk'
 exact h.go hE hg hN (by omega) (fun t k q q'=>absurd q q') (fun t q q'=>absurd q q') (fun e he=>by simp at he)
theorem Pt.grow{c:CL}{i:Nat}{G G1:Gh}{x:ND}{sent:List PV}(h:Pt c i G G1 x sent)(hi:i < c.ns.length)(hF:NdF x)(hid:x.id=i)(hn:x.nodes=c.ns.length)(hr:x.role=2)(d:List UInt8) :
  Pt c i G (G1.grow x.term i (zAe x d).log) (yG x d) (sent++[]):=by
 obtain⟨l1,l2,l3,l4,l5⟩:=h.nd.ld hr
 have hTv:∀t,G1.vf t i≠-1→t≤x.term:=fun t q=>Decidable.byContradiction fun n=>q (h.nd.vn t (by omega))
 have hTw:∀t,G1.ex t→G1.who t=i→t≤x.term:=fun t q e=>by have:=h.wt t q;rwa[e,y0] at this
 obtain⟨r,hL,hrt⟩:∃r,(zAe x d).log=x.log++r∧∀e∈r,eT e=x.term:=⟨_,rfl,fun e he=>by rw[List.mem_singleton.1 he];rfl⟩
 rw[hL]
 have a0:∀t,t≠x.term→(G1.grow x.term i (x.log++r)).ll t=G1.ll t∧(G1.grow x.term i (x.log++r)).ak t i=G1.ak t i:=fun t e=>by simp[Gh.grow,e]
 have a1:(G1.grow x.term i (x.log++r)).ll x.term=x.log++r:=by simp[Gh.grow]
 have a2:(G1.grow x.term i (x.log++r)).ak x.term i=(x.log++r).length:=by simp[Gh.grow]
 have hE:Ext G1 (G1.grow x.term i (x.log++r)) i x.term:=by
  refine⟨fun t q=>⟨q,rfl,rfl⟩,fun t q q'=>absurd q q',fun t=>?_,fun t _ q=>(a0 t fun e=>q (by rw[e];exact l2)).1,fun t j hj=>⟨rfl,rfl,by simp[Gh.grow,hj]⟩,fun t _=>⟨rfl,rfl⟩,fun t=>?_,fun t ht=>(a0 t (by omega)).2,fun _ _ _=>rfl,fun _ _=>rfl⟩
  ·by_cases e:t=x.term
   ·subst e;exact⟨r,by rw[a1,l3]⟩
   ·exact⟨[],by rw[(a0 t e).1];simp⟩
  ·by_cases e:t=x.term
   ·subst e
    have:=h.g.akl x.term i
    rw[a2,List.length_append,l3];omega
   ·rw[(a0 t e).2];exact Nat.le_refl _
 have hlp:LP (G1.grow x.term i (x.log++r)).ll (x.log++r):=(hE.lp h.nd.lp).snoc a1 hrt
 have hg:GI c.ns.length (G1.grow x.term i (x.log++r)):=by
  refine h.g.go hE hTv hTw (fun t _=>?_) (fun t q=>?_) (fun t q q'=>absurd q q') (fun t=>?_) (fun t=>.inl rfl) (fun t=>.inl rfl) (fun t=>?_)
  ·by_cases e:t=x.term
   ·subst e;exact⟨r,by rw[a1,l3],hrt⟩
   ·exact⟨[],by rw[(a0 t e).1];simp,by simp⟩
  ·have e:t≠x.term:=fun e=>q (by rw[e];exact l1)
   rw[(a0 t e).1];exact h.g.nex t q
  ·by_cases e:t=x.term
   ·subst e;right;rw[a1];exact hlp
   ·left;exact(a0 t e).1
  ·by_cases e:t=x.term
   ·subst e;rw[a2,a1];exact Nat.le_refl _
   ·rw[(a0 t e).1,(a0 t e).2];exact h.g.akl t i
 have hl:(yG x d).log=x.log++r:=hL
 have hl':(zAe x d).log.length=x.log.length+1:=by simp[zAe]
 have hLd:LdI c.ns.length (G1.grow x.term i (x.log++r)) i (zAe x d):=by
  refine⟨l1,l2,by rw[show(zAe x d).term=x.term from rfl,a1];exact hL,by show((G1.grow x.term i (x.log++r)).ll x.term).length≤(G1.grow x.term i (x.log++r)).ak x.term i;rw[a1,a2];exact Nat.le_refl _,fun j hj hne=>?_⟩
  show(nth x.ms j).I≤((G1.grow x.term i (x.log++r)).ak x.term j:Nat)
  rw[(hE.vo x.term j hne).2.2];exact l5 j hj hne
 have hcm:x.com.toNat≤x.log.length:=by have:=hF.c1;omega
 have hk0:Kn c.ns.length (G1.grow x.term i (x.log++r)) x.term (x.log++r) x.com.toNat:=(hE.kn (Int.le_refl _) h.nd.kn).app hcm
 have hms:=hF.ms
 have hN:NI c.ns.length (G1.grow x.term i (x.log++r)) i (yG x d):=by
  refine⟨by rw[hl];exact hlp,h.nd.vt,h.nd.vn,fun t q=>?_,fun t k hk=>?_,?_,fun _=>⟨l1,l2,?_,hLd.own,hLd.ms⟩,fun q=>absurd (show x.role=1 from q) (by omega)⟩
  ·have q:x.term < t:=q
   rw[(a0 t (by omega)).2];exact h.nd.an t q
  ·rw[hl]
   by_cases e:t=x.term
   ·subst e;left;rw[a1]
   ·rw[(a0 t e).2] at hk
    have hkl:=Nat.le_trans hk (h.g.akl t i)
    rcases h.nd.ab t k hk with q | ⟨s,r1,r2,r3,r4⟩
    ·left;rw[(a0 t e).1];exact zLS hkl q
    ·exact .inr ⟨s,r1,r2,r3,hE.dis hkl r3 r4⟩
  ·have hk1:Kn c.ns.length (G1.grow x.term i (x.log++r)) (zAe x d).term (zAe x d).log (zAe x d).com.toNat:=by
    rw[hL];exact hk0
   exact zGc hLd hi hid hn (by show x.ms.length=_;omega) hk1 _ (by omega)
  ·show(yG x d).log=_
   rw[hl];exact a1.symm
 exact h.go hE hg hN (Int.le_refl _) (fun t k q q'=>absurd q q') (fun t q q'=>absurd q q') (fun e he=>by simp at he)
theorem Pt.newer{c:CL}{i:Nat}{G G1:Gh}{x:ND}{sent:List PV}(h:Pt c i G G1 x sent)(t:Int):Pt c i G G1 (zCD x t) (sent++[]):=by
 unfold zCD
 split
 ·rename_i q
  refine h.st ⟨h.nd.lp,(h.nd.vn t q).symm,fun s hs=>h.nd.vn s (by have:t < s:=hs;omega),fun s hs=>h.nd.an s (by have:t < s:=hs;omega),fun s k hk=>?_,?_,fun q=>absurd (show(0:Int)=2 from q) (by omega),fun q=>absurd (show(0:Int)=1 from q) (by omega)⟩ (by show x.term≤t;omega) (by simp)
  ·rcases h.nd.ab s k hk with q | ⟨r,r1,r2,r3,r4⟩
   ·exact .inl q
   ·exact .inr ⟨r,r1,by show r≤t;omega,r3,r4⟩
  ·exact(Ext.refl G1 i x.term).kn (by show x.term≤t;omega) h.nd.kn
 ·rw[List.append_nil];exact h
theorem NI.set{n:Nat}{G:Gh}{i:Nat}{x y:ND}(h:NI n G i x)(y1:y.term=x.term)(y2:y.vote=x.vote)(y3:y.log=x.log)(y4:y.com=x.com)(y5:y.role=x.role)(y6:y.vs=x.vs)(y7:y.ms=x.ms):NI n G i y:=
 ⟨by rw[y3];exact h.lp,by rw[y1,y2];exact h.vt,by rw[y1];exact h.vn,by rw[y1];exact h.an,by rw[y1,y3];exact h.ab,by rw[y1,y3,y4];exact h.kn,by rw[y1,y3,y5,y7];exact h.ld,by rw[y1,y3,y5,y6];exact h.cd⟩
theorem NI.fol{n:Nat}{G:Gh}{i:Nat}{x y:ND}(h:NI n G i x)(y1:y.term=x.term)(y2:y.vote=x.vote)(y3:y.log=x.log)(y4:y.com=x.com)(y5:y.role=0):NI n G i y:=
 ⟨by rw[y3];exact h.lp,by rw[y1,y2];exact h.vt,by rw[y1];exact h.vn,by rw[y1];exact h.an,by rw[y1,y3];exact h.ab,by rw[y1,y3,y4];exact h.kn,fun q=>by omega,fun q=>by omega⟩
theorem zHp{n:Nat}{G:Gh}{i:Nat}{x:ND}(hx:NI n G i x)(hr:x.role=1)(hid:x.id=i):∀k:Nat,∀e∈zAl x k,MI n G (yk e.A)∧(yk e.A).frm.toNat=i∧(yk e.A).term≤x.term
 | 0,e,he=>by simp[zAl] at he
 | k+1,e,he=>by
  rw[zAl] at he
  rcases List.mem_append.1 he with he | he
  ·exact zHp hx hr hid k e he
  ·split at he
   ·simp at he
   ·rw[List.mem_singleton.1 he]
    have hc:=(hx.cd hr).1
    have hf:(yk (zW7 x k).A).frm.toNat=i:=by show x.id.toNat=i;omega
    refine⟨⟨fun _=>?_,fun q=>absurd (show(1:Int)=2 from q) (by omega),fun q=>absurd (show(1:Int)=3 from q) (by omega),fun q=>absurd (show(1:Int)=4 from q) (by omega)⟩,hf,Int.le_refl _⟩
    rw[hf]
    show(x.log.length:Int)=(G.cl x.term i).length∧zCI x.log x.log.length=ltm (G.cl x.term i)
    rw[←hc];exact⟨rfl,rfl⟩
theorem zK0{n:Nat}{G:Gh}{i:Nat}{x:ND}(hx:NI n G i x)(hr:x.role=2)(hid:x.id=i){to:Int}(h1:1≤(nth x.nx to.toNat).I)(h2:(nth x.nx to.toNat).I≤x.log.length+1):MI n G (yk (zOc x to).A)∧(yk (zOc x to).A).frm.toNat=i∧(yk (zOc x to).A).term≤x.term:=by
 obtain⟨l1,l2,l3,l4,l5⟩:=hx.ld hr
 have hf:(yk (zOc x to).A).frm.toNat=i:=by show x.id.toNat=i;omega
 have hkn:=hx.kn
 refine⟨⟨fun q=>absurd (show(3:Int)=1 from q) (by omega),fun q=>absurd (show(3:Int)=2 from q) (by omega),fun _=>?_,fun q=>absurd (show(3:Int)=4 from q) (by omega)⟩,hf,Int.le_refl _⟩
 rw[hf]
 show G.ex x.term∧G.who x.term=i∧0≤(nth x.nx to.toNat).I - 1∧((nth x.nx to.toNat).I - 1).toNat+(x.log.drop ((nth x.nx to.toNat).I.toNat - 1)).length≤(G.ll x.term).length∧x.log.drop ((nth x.nx to.toNat).I.toNat - 1)=((G.ll x.term).drop ((nth x.nx to.toNat).I - 1).toNat).take (x.log.drop ((nth x.nx to.toNat).I.toNat - 1)).length∧zCI x.log ((nth x.nx to.toNat).I - 1)=zCI (G.ll x.term) ((nth x.nx to.toNat).I - 1)∧Kn n G x.term (G.ll x.term) x.com.toNat
 rw[←l3]
 have e1:((nth x.nx to.toNat).I - 1).toNat=(nth x.nx to.toNat).I.toNat - 1:=by omega
 refine⟨l1,l2,by omega,?_,?_,rfl,hkn⟩
 ·rw[List.length_drop];omega
 ·rw[e1,List.take_length]
theorem zBJ{n:Nat}{G:Gh}{i:Nat}{x:ND}(hx:NI n G i x)(hr:x.role=2)(hid:x.id=i)(hF:NdF x):∀k:Nat,(k:Int)≤x.nodes→∀e∈zAx x k,MI n G (yk e.A)∧(yk e.A).frm.toNat=i∧(yk e.A).term≤x.term
 | 0,_,e,he=>by simp[zAx] at he
 | k+1,hk,e,he=>by
  rw[zAx] at he
  rcases List.mem_append.1 he with he | he
  ·exact zBJ hx hr hid hF k (by omega) e he
  ·split at he
   ·simp at he
   ·rw[List.mem_singleton.1 he]
    have nx:=hF.nx;have ms:=hF.ms
    have:=zI1 hF.nm (by omega) k (by omega)
    exact zK0 hx hr hid (by rw[Int.toNat_natCast];omega) (by rw[Int.toNat_natCast];omega)
end
section
variable [zS]
theorem Kn.tr{n:Nat}{G:Gh}{t:Int}{l X:List PV}{k q:Nat}(h:Kn n G t l k)(hX:X.take q=l.take q)(hk:k≤q):Kn n G t X k:=by
 rcases h with h | ⟨s,m,h1,h2,h3,h4⟩
 ·exact .inl h
 ·exact .inr ⟨s,m,h1,h2,h3,by rw[zBH hX hk];exact h4⟩
theorem zKT{x:Int}{es:List PV}{v:PV}(h:v∈zFN x es):v=.int .i64 x∨v∈es:=by
 unfold zFN at h
 split at h
 ·exact .inr h
 ·rcases List.mem_append.1 h with h | h
  ·rcases List.mem_append.1 h with h | h
   ·exact .inr (List.mem_of_mem_take h)
   ·exact .inl (List.mem_singleton.1 h)
  ·exact .inr (List.mem_of_mem_drop h)
structure Mc (c:CL) (i:Nat) (y:ND) (m:MG):Prop where
 hi:i < c.ns.length
 F:NdF y
 up:y.up=true
 id:y.id=i
 nd:y.nodes=c.ns.length
 rt:y.role≠0→1≤y.term
 mt:m.term≤y.term
 t1:1≤m.term
 to:m.to=i
 f0:0≤m.frm
 f1:m.frm < c.ns.length
 ne:m.frm≠m.to
 i0:0≤m.idx
 ft:m.term≤(yH c.ns m.frm.toNat).term
 k4:1≤m.kind∧m.kind≤4
theorem Pt.msg{c:CL}{i:Nat}{G G1:Gh}{x:ND}{sent new:List PV}(h:Pt c i G G1 x sent)(hn:∀e∈new,MI c.ns.length G1 (yk e.A)∧(yk e.A).frm.toNat=i∧(yk e.A).term≤x.term):Pt c i G G1 x (sent++new):=
 h.st h.nd (Int.le_refl _) hn
theorem MI.nil{n:Nat}{G:Gh}{m:MG}(h:m.kind=2∨m.kind=4)(ho:m.ok=false):MI n G m:=
 ⟨fun q=>by omega,fun _ q=>by rw[ho] at q;simp at q,fun q=>by omega,fun _ q=>by rw[ho] at q;simp at q⟩
theorem zVE{l cl:List PV}{idx lt:Int}(h:zWC l idx lt=true)(h1:idx=cl.length)(h2:lt=ltm cl):UD cl l:=by
 simp only[zWC,Bool.or_eq_true,Bool.and_eq_true,decide_eq_true_eq] at h
 unfold UD
 rw[←h2]
 show zCI l l.length < lt∨zCI l l.length=lt∧_
 rcases h with h | ⟨h,h'⟩
 ·exact .inl h
 ·exact .inr ⟨h.symm,by omega⟩
theorem zPQ{c:CL}{i:Nat}{G G1:Gh}{y:ND}{m:MG}{sent:List PV}(h:Pt c i G G1 y sent)(hc:Mc c i y m)(hm:MI c.ns.length G1 m)(hk:m.kind=1):∃G2,Pt c i G G2 (zHV y m) (sent++[]++[zY4 y m]):=by
 have id:=hc.id;have to:=hc.to;have ne:=hc.ne;have f0:=hc.f0;have f1:=hc.f1
 cases hb:zSn y m with
 | false=>
  have e:zHV y m=y:=by unfold zHV;rw[hb];rfl
  rw[e]
  refine⟨G1,(h.msg (new:=[]) (by simp)).msg fun e he=>?_⟩
  rw[List.mem_singleton.1 he]
  exact⟨MI.nil (.inl rfl) hb,by show y.id.toNat=i;omega,Int.le_refl _⟩
 | true=>
  have e:zHV y m={ y with vote:=m.frm,ela:=0 }:=by unfold zHV;rw[hb];rfl
  obtain⟨k,hfk⟩:∃k:Nat,m.frm=k:=⟨m.frm.toNat,by omega⟩
  have hb':=hb
  simp only[zSn,Bool.and_eq_true,Bool.or_eq_true,decide_eq_true_eq] at hb'
  obtain⟨⟨b1,b2⟩,b3⟩:=hb'
  obtain⟨r1,r2⟩:=hm.rq hk
  have hu:UD (G1.cl y.term k) y.log:=by
   rw[hfk,Int.toNat_natCast,b1] at r1 r2
   exact zVE b3 r1 r2
  have ft:=hc.ft
  rw[hfk,Int.toNat_natCast,b1] at ft
  obtain⟨G2,p2⟩:∃G2,Pt c i G G2 (zHV y m) (sent++[]):=by
   by_cases hv:y.vote=-1
   ·exact⟨_,h.vote hc.F (k:=k) (by omega) (by omega) hv ft hu (by rw[e]) (by rw[e];exact hfk) (by rw[e]) (by rw[e]) (by rw[e]) (by rw[e]) (by rw[e])⟩
   ·have hv:y.vote=m.frm:=by rcases b2 with q | q;exact absurd q hv;exact q
    exact⟨G1,h.st (h.nd.set (by rw[e]) (by rw[e];exact hv.symm) (by rw[e]) (by rw[e]) (by rw[e]) (by rw[e]) (by rw[e])) (by rw[e];exact Int.le_refl _) (by simp)⟩
  refine⟨G2,p2.msg fun a ha=>?_⟩
  rw[List.mem_singleton.1 ha]
  have ht:(zHV y m).term=y.term:=by rw[e]
  have hvf:G2.vf y.term i=k:=by
   have:=p2.nd.vt
   rw[ht] at this
   rw[←this,e];exact hfk
  refine⟨⟨fun q=>absurd (show(2:Int)=1 from q) (by omega),fun _ _=>?_,fun q=>absurd (show(2:Int)=3 from q) (by omega),fun q=>absurd (show(2:Int)=4 from q) (by omega)⟩,by show y.id.toNat=i;omega,by rw[ht];exact Int.le_refl _⟩
  show Vt G2 y.term m.frm.toNat y.id.toNat
  have e1:y.id.toNat=i:=by omega
  rw[e1,hfk,Int.toNat_natCast]
  exact p2.vg _ _ _ hvf
theorem zMq{c:CL}{i:Nat}{G G1:Gh}{y:ND}{m:MG}{sent:List PV}(h:Pt c i G G1 y sent)(hc:Mc c i y m)(hm:MI c.ns.length G1 m)(hk:m.kind=2)(hN:NdF (zE2 y m).1):∃G2,Pt c i G G2 (zE2 y m).1 (sent++[]++[]++(zE2 y m).2):=by
 have id:=hc.id;have to:=hc.to;have ne:=hc.ne;have f0:=hc.f0;have f1:=hc.f1;have nd:=hc.nd
 have hi:=hc.hi
 unfold zE2 at hN ⊢
 split
 ·exact⟨G1,((h.msg (by simp)).msg (by simp)).msg (by simp)⟩
 ·rename_i hg
  rw[if_neg hg] at hN
  have g1:y.role=1:=Decidable.byContradiction fun q=>hg (.inl q)
  have g2:m.term=y.term:=Decidable.byContradiction fun q=>hg (.inr (.inl q))
  have g3:m.ok=true:=by cases q:m.ok;exact absurd (.inr (.inr q)) hg;rfl
  have hv:=hm.vd hk g3
  rw[g2,to,Int.toNat_natCast] at hv
  obtain⟨c1,c2,c3⟩:=h.nd.cd g1
  have hvs:∀v∈zFN m.frm y.vs,∃j:Nat,v.I=j∧j < c.ns.length∧Vt G1 y.term i j:=by
   intro v hvm
   rcases zKT hvm with rfl | q
   ·exact⟨m.frm.toNat,by show m.frm=_;omega,by omega,hv⟩
   ·exact c2 v q
  have hN1:NI c.ns.length G1 i { y with vs:=zFN m.frm y.vs }:=
   ⟨h.nd.lp,h.nd.vt,h.nd.vn,h.nd.an,h.nd.ab,h.nd.kn,fun q=>absurd (show y.role=2 from q) (by omega),fun _=>⟨c1,hvs,c3⟩⟩
  have p2:Pt c i G G1 { y with vs:=zFN m.frm y.vs } (sent++[]):=h.st hN1 (Int.le_refl _) (by simp)
  have hF:=hc.F
  have hV:NdF { y with vs:=zFN m.frm y.vs }:=
   ⟨hF.n1,hF.n5,hF.i0,hF.i1,hF.t0,hF.t1,hF.en,hF.l6,hF.r0,hF.r2,hF.ur,hF.c0,hF.c1,hF.e0,hF.e1,hF.w5,hF.w1,hF.nx,hF.ms,zMl f0 (show m.frm≤y.nodes - 1 by omega) hF.vo,hF.nm,hF.vt⟩
  split
  ·rename_i hlt
   rw[if_pos hlt] at hN
   have hM:Maj c.ns.length fun j=>Vt G1 y.term i j:=by
    have hvo:=hV.vo
    rw[show({ y with vs:=zFN m.frm y.vs }:ND).nodes=y.nodes from rfl,nd] at hvo
    refine zKq hvo (by show c.ns.length < 2*(zFN m.frm y.vs).length;omega) fun v hv'=>?_
    obtain⟨j,j1,_,j3⟩:=hvs v hv'
    exact⟨j,j1,j3⟩
   have p3:=p2.lead hi hV id nd g1 (hc.rt (by omega)) hM
   refine⟨_,p3.msg fun e he=>?_⟩
   exact zBJ p3.nd rfl id hN _ (by show(y.nodes.toNat:Int)≤y.nodes;omega) e he
  ·exact⟨G1,(p2.msg (by simp)).msg (by simp)⟩
theorem zME{n:Nat}{G:Gh}{x:ND}(hg:GI n G)(hl:LP G.ll x.log){idx:Int}(h0:0≤idx)(h1:idx≤x.log.length)(h2:idx.toNat≤(G.ll x.term).length)(h:zCI x.log idx=zCI (G.ll x.term) idx):x.log.take idx.toNat=(G.ll x.term).take idx.toNat:=by
 unfold zCI at h
 by_cases e:idx=0
 ·rw[e];simp
 ·rw[if_neg e,if_neg e] at h
  have:=hl.same (hg.lpl x.term) (p:=(idx - 1).toNat) (by omega) (by omega) h
  have e1:(idx - 1).toNat+1=idx.toNat:=by omega
  rw[e1] at this
  exact this
theorem zEX{x:ND}{m:MG}:(zAW x m).term=x.term∧(zAW x m).vote=x.vote∧(zAW x m).log=x.log∧(zAW x m).com=x.com∧(zAW x m).id=x.id:=by
 unfold zAW;split<;>exact⟨rfl,rfl,rfl,rfl,rfl⟩
theorem zJ9{n:Nat}{G:Gh}{i:Nat}{x:ND}(h:NI n G i x)(m:MG):NI n G i (zAW x m):=by
 unfold zAW
 split
 ·exact h.fol rfl rfl rfl rfl rfl
 ·exact h
theorem zHt{n:Nat}{G:Gh}{i:Nat}{x:ND}{m:MG}(hg:GI n G)(hx:NI n G i x)(hm:MI n G m)(hk:m.kind=3)(ht:m.term=x.term)(hl:m.idx≤x.log.length)(hlt:zCI x.log m.idx=m.lt) :
  G.ex x.term∧m.idx.toNat+m.es.length≤(G.ll x.term).length∧Kn n G x.term (G.ll x.term) m.com.toNat∧(zAD x.log m.idx.toNat m.es=x.log∨∃p,p < m.idx.toNat+m.es.length∧zAD x.log m.idx.toNat m.es=(G.ll x.term).take (m.idx.toNat+m.es.length)∧∀q,p≤q→q≤(G.ll x.term).length→Tk (G.ll x.term) x.log ((G.ll x.term).take q) p)∧(zAD x.log m.idx.toNat m.es).take (m.idx.toNat+m.es.length)=(G.ll x.term).take (m.idx.toNat+m.es.length):=by
 obtain⟨a1,a2,a0,a3,a4,a5,a6⟩:=hm.ap hk
 rw[ht] at a1 a2 a3 a4 a5 a6
 have h1:=zME hg hx.lp a0 hl (by omega) (by rw[hlt,a5])
 refine⟨a1,a3,a6,?_⟩
 rcases zDg hx.lp (hg.lpl x.term) m.es m.idx.toNat (by omega) h1 a3 a4 with ⟨q1,q2⟩ | ⟨p,q1,q2,q3,q4⟩
 ·exact⟨.inl q1,by rw[q1];exact q2⟩
 ·exact⟨.inr ⟨p,q1,q2,fun q z1 z2=>⟨⟨q,z1,z2,rfl⟩,q3,q4⟩⟩,by rw[q2,List.take_take,Nat.min_self]⟩
theorem zQm{c:CL}{i:Nat}{G G1:Gh}{y:ND}{m:MG}{sent:List PV}(h:Pt c i G G1 y sent)(hc:Mc c i y m)(hm:MI c.ns.length G1 m)(hk:m.kind=3):∃G2,Pt c i G G2 (zBQ y m).1 (sent++[]++[zM5 y m (zBQ y m).2.1 (zBQ y m).2.2]):=by
 have id:=hc.id;have mt:=hc.mt;have i0:=hc.i0
 obtain⟨f1,f2,f3,f4,f5⟩:=zEX (x:=y) (m:=m)
 unfold zBQ
 cases hno:zDX y m with
 | true=>
  simp only[cond_true]
  refine⟨G1,(h.st (new:=[]) (zJ9 h.nd m) (by omega) (by simp)).msg fun e he=>?_⟩
  rw[List.mem_singleton.1 he]
  exact⟨MI.nil (.inr rfl) rfl,by show y.id.toNat=i;omega,by show y.term≤_;omega⟩
 | false=>
  simp only[cond_false]
  simp only[zDX,Bool.or_eq_false_iff,decide_eq_false_iff_not] at hno
  obtain⟨⟨n1,n2⟩,n3⟩:=hno
  have ht:m.term=y.term:=by omega
  have n3:zCI y.log m.idx=m.lt:=Decidable.byContradiction n3
  have n2:m.idx≤y.log.length:=by omega
  obtain⟨a1,a3,a6,aT,aq⟩:=zHt h.g h.nd hm hk ht n2 n3
  have hcm:y.com.toNat≤y.log.length:=by have:=hc.F.c1;omega
  have hX:LP G1.ll (zAD y.log m.idx.toNat m.es):=by
   rcases aT with q | ⟨p,p1,p2,p3⟩
   ·rw[q];exact h.nd.lp
   ·rw[p2];exact(h.g.lpl _).take _
  have hab:∀t k,k≤G1.ak t i→(zAD y.log m.idx.toNat m.es).take k=(G1.ll t).take k∨∃r,t < r∧r≤y.term∧G1.ex r∧Dis G1 t r k:=by
   intro t k hk'
   rcases aT with q | ⟨p,p1,p2,p3⟩
   ·rw[q];exact h.nd.ab t k hk'
   ·rw[p2];exact zHs h.g h.nd a1 (p3 _ (by omega) a3) hk'
  have hk0:Kn c.ns.length G1 y.term (zAD y.log m.idx.toNat m.es) y.com.toNat:=by
   rcases aT with q | ⟨p,p1,p2,p3⟩
   ·rw[q];exact h.nd.kn
   ·rw[p2];exact zMD h.g a1 h.nd.kn hcm (p3 _ (by omega) a3)
  have hkn:Kn c.ns.length G1 y.term (zAD y.log m.idx.toNat m.es) (mxI y.com (mnI m.com (m.idx+m.es.length))).toNat:=by
   by_cases q:y.com < mnI m.com (m.idx+m.es.length)
   ·have e1:mxI y.com (mnI m.com (m.idx+m.es.length))=mnI m.com (m.idx+m.es.length):=by unfold mxI;rw[if_pos q]
    rw[e1]
    have z1:mnI m.com (m.idx+m.es.length)≤m.com∧mnI m.com (m.idx+m.es.length)≤m.idx+m.es.length:=by unfold mnI;split<;>omega
    exact(a6.le (by omega)).tr aq (by omega)
   ·have e1:mxI y.com (mnI m.com (m.idx+m.es.length))=y.com:=by unfold mxI;rw[if_neg q]
    rw[e1];exact hk0
  have e5:(zAW y m).role=0:=by unfold zAW;rw[if_pos ht];rfl
  have p2:=h.ack a1 a3 hX aq hab (y:=zPU (zAW y m) m) (by show(zAW y m).term=_;exact f1) (by show(zAW y m).vote=_;exact f2) (by show zAD (zAW y m).log _ _=_;rw[f3]) (by show Kn _ _ _ _ (mxI (zAW y m).com _).toNat;rw[f4];exact hkn) e5
  refine⟨_,p2.msg fun e he=>?_⟩
  rw[List.mem_singleton.1 he]
  refine⟨⟨fun q=>absurd (show(4:Int)=1 from q) (by omega),fun q=>absurd (show(4:Int)=2 from q) (by omega),fun q=>absurd (show(4:Int)=3 from q) (by omega),fun _ _=>?_⟩,by show y.id.toNat=i;omega,by show y.term≤(zAW y m).term;omega⟩
  show(m.idx+(m.es.length:Int)).toNat≤(G1.ack y.term i (m.idx.toNat+m.es.length)).ak y.term y.id.toNat
  have e1:y.id.toNat=i:=by omega
  rw[e1]
  simp only[Gh.ack,true_and]
  split<;>omega
theorem zQo{c:CL}{i:Nat}{G G1:Gh}{y:ND}{m:MG}{sent:List PV}(h:Pt c i G G1 y sent)(hc:Mc c i y m)(hm:MI c.ns.length G1 m)(hk:m.kind=4)(hN:NdF (zKi y m).1):∃G2,Pt c i G G2 (zKi y m).1 (sent++[]++(zKi y m).2):=by
 have id:=hc.id;have to:=hc.to;have f0:=hc.f0;have f1:=hc.f1;have nd:=hc.nd;have i0:=hc.i0;have hi:=hc.hi
 have nx:=hc.F.nx;have ms:=hc.F.ms
 unfold zKi at hN ⊢
 split
 ·exact⟨G1,(h.msg (by simp)).msg (by simp)⟩
 ·rename_i hg
  rw[if_neg hg] at hN
  have g1:y.role=2:=Decidable.byContradiction fun q=>hg (.inl q)
  have g2:m.term=y.term:=Decidable.byContradiction fun q=>hg (.inr q)
  obtain⟨l1,l2,l3,l4,l5⟩:=h.nd.ld g1
  split
  ·rename_i hok
   have hak:=hm.ak hk hok
   rw[g2] at hak
   have hLd:LdI c.ns.length G1 i (zOV y m):=by
    refine⟨l1,l2,l3,l4,fun j hj hne=>?_⟩
    show(nth (y.ms.set m.frm.toNat (.int .i64 (mxI (nth y.ms m.frm.toNat).I (mnI m.idx y.log.length)))) j).I≤(G1.ak y.term j:Nat)
    by_cases e:m.frm.toNat=j
    ·subst e
     rw[zDG (by omega)]
     have z1:=l5 _ hj hne
     show mxI (nth y.ms m.frm.toNat).I (mnI m.idx y.log.length)≤_
     unfold mxI mnI
     split<;>split<;>omega
    ·rw[zDf e];exact l5 j hj hne
   have hkn:Kn c.ns.length G1 y.term y.log (zGi (zOV y m) y.log.length).toNat:=
    zGc hLd hi id nd (by show(y.ms.set _ _).length=_;rw[List.length_set];omega) h.nd.kn y.log.length (Nat.le_refl _)
   have hN2:NI c.ns.length G1 i { zOV y m with com:=zGi (zOV y m) y.log.length }:=
    ⟨h.nd.lp,h.nd.vt,h.nd.vn,h.nd.an,h.nd.ab,hkn,fun _=>⟨l1,l2,l3,l4,hLd.ms⟩,fun q=>absurd (show y.role=1 from q) (by omega)⟩
   exact⟨G1,(h.st hN2 (Int.le_refl _) (by simp)).msg (by simp)⟩
  ·rename_i hok
   rw[if_neg hok] at hN
   have p2:Pt c i G G1 (zPy y m) (sent++[]):=h.st (h.nd.set rfl rfl rfl rfl rfl rfl rfl) (Int.le_refl _) (by simp)
   refine⟨G1,p2.msg fun e he=>?_⟩
   rw[List.mem_singleton.1 he]
   have nx':=hN.nx;have ms':=hN.ms
   have nd':(zPy y m).nodes=y.nodes:=rfl
   have:=zI1 hN.nm (by simp only at nx' ms' ⊢;omega) m.frm.toNat (by simp only at nx' nd' ⊢;omega)
   exact zK0 p2.nd g1 id this.1 this.2.1
theorem zIS{c:CL}{i:Nat}{G G1:Gh}{y:ND}{m:MG}(h:Pt c i G G1 y [])(hc:Mc c i y m)(hm:MI c.ns.length G1 m)(hN:NdF (yI y m).1):∃G2,Pt c i G G2 (yI y m).1 (yI y m).2:=by
 have k4:=hc.k4
 unfold yI at hN ⊢
 split
 ·rename_i k
  exact zPQ h hc hm k
 ·rename_i k1
  rw[if_neg k1] at hN
  split
  ·rename_i k
   rw[if_pos k] at hN
   exact zMq h hc hm k hN
  ·rename_i k2
   rw[if_neg k2] at hN
   split
   ·rename_i k
    exact zQm h hc hm k
   ·rename_i k3
    rw[if_neg k3] at hN
    exact zQo h hc hm (by omega) hN
end
section
variable [zS]
theorem zDB:∀{us vs:List PV} {p:Nat},us.take p=vs.take p→p≤us.length→p≤vs.length→p≤zBk us vs
 | _,_,0,_,_,_=>Nat.zero_le _
 | [],_,p+1,_,h,_=>by simp at h
 | _ :: _,[],p+1,_,_,h=>by simp at h
 | a :: us,b :: vs,p+1,h,h1,h2=>by
  rw[List.take_succ_cons,List.take_succ_cons] at h
  obtain⟨e1,e2⟩:=List.cons.inj h
  have:=zDB e2 (by simpa using h1) (by simpa using h2)
  have er:ze a b=true:=by rw[e1];exact zBj b
  simp only[zBk,er,if_true]
  omega
theorem NI.down{n:Nat}{G:Gh}{i:Nat}{x y:ND}(h:NI n G i x)(y1:y.term=x.term)(y2:y.vote=x.vote)(y3:y.log=x.log)(y4:y.com=0)(y5:y.role=0):NI n G i y:=
 ⟨by rw[y3];exact h.lp,by rw[y1,y2];exact h.vt,by rw[y1];exact h.vn,by rw[y1];exact h.an,by rw[y1,y3];exact h.ab,.inl (by rw[y4];rfl),fun q=>by omega,fun q=>by omega⟩
theorem zMQ(x:ND)(t:Int):(zCD x t).log=x.log∧x.term≤(zCD x t).term:=by
 unfold zCD;split
 ·exact⟨rfl,by show x.term≤t;omega⟩
 ·exact⟨rfl,Int.le_refl _⟩
theorem zIE(t:Int)(l:List PV):∃r,yq t l=l++r∧r.length≤1:=by
 unfold yq;split
 ·exact⟨_,rfl,by simp⟩
 ·exact⟨[],by simp,by simp⟩
theorem zKU(y:ND)(m:MG):(yI y m).1.term=y.term∧((yI y m).1.log=y.log∨(yI y m).1.vote=y.vote∧((∃r,(yI y m).1.log=y.log++r∧r.length≤1)∨m.kind=3∧zDX y m=false∧(yI y m).1.log=zAD y.log m.idx.toNat m.es)):=by
 obtain⟨f1,f2,f3,f4,f5⟩:=zEX (x:=y) (m:=m)
 unfold yI
 split
 ·show(zHV y m).term=_∧((zHV y m).log=_∨_)
  unfold zHV;split<;>exact⟨rfl,.inl rfl⟩
 ·split
  ·unfold zE2
   split
   ·exact⟨rfl,.inl rfl⟩
   ·split
    ·exact⟨rfl,.inr ⟨rfl,.inl (zIE _ _)⟩⟩
    ·exact⟨rfl,.inl rfl⟩
  ·split
   ·rename_i k3
    show(zBQ y m).1.term=_∧((zBQ y m).1.log=_∨(zBQ y m).1.vote=_∧((∃r,(zBQ y m).1.log=_∧_)∨_∧_∧(zBQ y m).1.log=_))
    unfold zBQ
    cases hno:zDX y m with
    | true=>exact⟨f1,.inl f3⟩
    | false=>
     refine⟨f1,.inr ⟨f2,.inr ⟨k3,rfl,?_⟩⟩⟩
     show zAD (zAW y m).log _ _=_
     rw[f3]
   ·unfold zKi
    split
    ·exact⟨rfl,.inl rfl⟩
    ·split
     ·exact⟨rfl,.inl rfl⟩
     ·exact⟨rfl,.inl rfl⟩
theorem zP0{c:CL}{i:Nat}{G:Gh}{x0:ND}{m:MG}(p0:Pt c i G G x0 [])(hc:Mc c i (zCD x0 m.term) m)(hm:MI c.ns.length G m)(hN:NdF (yI (zCD x0 m.term) m).1){s:ST}(hs:zWS (zD0 x0) (zD0 (yI (zCD x0 m.term) m).1) s)(cnt:Int) :
  ∃G' sent,Pt c i G G' (zQs i cnt s) sent:=by
 have p1:=p0.newer m.term
 rw[List.append_nil] at p1
 obtain⟨n1,n2⟩:=zMQ x0 m.term
 generalize zCD x0 m.term=y at *
 obtain⟨h1,h2⟩:=zKU y m
 have hB:s.t=y.term→s.v=y.vote→s.log=y.log→∃G' sent,Pt c i G G' (zQs i cnt s) sent:=fun z1 z2 z3=>
  ⟨G,[]++[],p1.st (p1.nd.down z1 z2 z3 rfl rfl) (by show y.term≤s.t;omega) (by simp)⟩
 have hA:s.t=(yI y m).1.term→s.v=(yI y m).1.vote→s.log=(yI y m).1.log→∃G' sent,Pt c i G G' (zQs i cnt s) sent:=fun z1 z2 z3=>by
  obtain⟨G2,p2⟩:=zIS p1 hc hm hN
  exact⟨G2,_++[],p2.st (p2.nd.down z1 z2 z3 rfl rfl) (by show _≤s.t;omega) (by simp)⟩
 rcases hs with rfl | ⟨s1,s2,s3⟩
 ·exact⟨G,[]++[],p0.st (p0.nd.down rfl rfl rfl rfl rfl) (Int.le_refl _) (by simp)⟩
 ·have s1:s.t=(yI y m).1.term:=s1
  have s2:s.v=(yI y m).1.vote:=s2
  have s3:s.log=y.log∨∃j,zBk y.log (yI y m).1.log≤j∧j≤(yI y m).1.log.length∧s.log=(yI y m).1.log.take j:=by rw[n1];exact s3
  rcases h2 with q | ⟨q0,q⟩
  ·refine hA s1 s2 ?_
   rcases s3 with z | ⟨j,j1,j2,j3⟩
   ·rw[z,q]
   ·have:=zDB (us:=y.log) (vs:=(yI y m).1.log) (p:=y.log.length) (by rw[q]) (Nat.le_refl _) (by rw[q];exact Nat.le_refl _)
    rw[j3,List.take_of_length_le (by rw[q];omega)]
  ·rcases s3 with z | ⟨j,j1,j2,j3⟩
   ·exact hB (by rw[s1,h1]) (by rw[s2,q0]) z
   ·rcases q with ⟨r,r1,r2⟩ | ⟨k3,hno,hmg⟩
    ·have:=zDB (us:=y.log) (vs:=(yI y m).1.log) (p:=y.log.length) (by rw[r1,List.take_append_of_le_length (Nat.le_refl _)]) (Nat.le_refl _) (by rw[r1,List.length_append];omega)
     by_cases e:j=y.log.length
     ·refine hB (by rw[s1,h1]) (by rw[s2,q0]) ?_
      rw[j3,e,r1,List.take_append_of_le_length (Nat.le_refl _),List.take_length]
     ·refine hA s1 s2 ?_
      rw[j3,List.take_of_length_le (by rw[r1,List.length_append];omega)]
    ·simp only[zDX,Bool.or_eq_false_iff,decide_eq_false_iff_not] at hno
     obtain⟨⟨o1,o2⟩,o3⟩:=hno
     have mt:=hc.mt
     obtain⟨a1,a3,a6,aT,aq⟩:=zHt p1.g p1.nd hm k3 (by omega) (by omega) (Decidable.byContradiction o3)
     rcases aT with e | ⟨p,p1',p2',p3'⟩
     ·refine hA s1 s2 ?_
      rw[←hmg] at e
      have:=zDB (us:=y.log) (vs:=(yI y m).1.log) (p:=y.log.length) (by rw[e]) (Nat.le_refl _) (by rw[e];exact Nat.le_refl _)
      rw[j3,List.take_of_length_le (by rw[e];omega)]
     ·rw[←hmg] at p2'
      have hlen:(yI y m).1.log.length=m.idx.toNat+m.es.length:=by rw[p2',List.length_take];omega
      have hT0:=p3' (m.idx.toNat+m.es.length) (by omega) a3
      have hpl:p≤y.log.length:=y8 hT0.e (by omega)
      have hge:=zDB (us:=y.log) (vs:=(yI y m).1.log) (p:=p) (by rw[p2',List.take_take,Nat.min_eq_left (by omega)];exact hT0.e) hpl (by omega)
      have hlj:s.log=(G.ll y.term).take j:=by rw[j3,p2',List.take_take,Nat.min_eq_left (by omega)]
      have hTj:=p3' j (by omega) (by omega)
      refine⟨G,[]++[],p1.st (y:=zQs i cnt s) ⟨?_,?_,?_,?_,fun t k hk=>?_,.inl rfl,fun q=>absurd (show(0:Int)=2 from q) (by omega),fun q=>absurd (show(0:Int)=1 from q) (by omega)⟩ (by show y.term≤s.t;omega) (by simp)⟩
      ·show LP G.ll s.log
       rw[hlj];exact(p1.g.lpl _).take _
      ·show s.v=G.vf s.t i
       rw[s1,s2,h1,q0];exact p1.nd.vt
      ·intro t ht
       have ht:s.t < t:=ht
       exact p1.nd.vn t (by omega)
      ·intro t ht
       have ht:s.t < t:=ht
       exact p1.nd.an t (by omega)
      ·show s.log.take k=_∨∃r,t < r∧r≤s.t∧_
       rw[hlj,s1,h1]
       exact zHs p1.g p1.nd a1 hTj hk
theorem zMC{c:CL}{i:Nat}{G:Gh}{x:ND}{d:Int}(p:Pt c i G G x [])(hi:i < c.ns.length)(hF:NdF x)(hid:x.id=i)(hn:x.nodes=c.ns.length)(hd:0≤d)(hu:x.up=true):∃G',Pt c i G G' (zBD x d).1 (zBD x d).2:=by
 have n1:=hF.n1;have t0:=hF.t0;have t1:=hF.t1
 unfold zBD
 split
 ·rename_i h2
  split
  ·exact⟨G,p.st (new:=[]) (p.nd.set rfl rfl rfl rfl rfl rfl rfl) (Int.le_refl _) (by simp)⟩
  ·have p2:Pt c i G G { x with ela:=0 } ([]++[]):=p.st (p.nd.set rfl rfl rfl rfl rfl rfl rfl) (Int.le_refl _) (by simp)
   exact⟨G,p2.msg fun e he=>zBJ p2.nd h2 hid hF.ela0 _ (by show(x.nodes.toNat:Int)≤x.nodes;omega) e he⟩
 ·split
  ·exact⟨G,p.st (new:=[]) (p.nd.set rfl rfl rfl rfl rfl rfl rfl) (Int.le_refl _) (by simp)⟩
  ·rename_i h1 h2
   have h3:x.term≠1000:=fun e=>h2 (.inr e)
   have hS:=zJH (d:=d) hF (by omega) hd hu
   have p2:=p.stand hi hF hid d
   unfold zEH
   split
   ·rename_i e1
    have hL:=zLz hS (by show 1≤x.term+1;omega) hu
    have hM:Maj c.ns.length fun j=>Vt (G.stand (x.term+1) i x.log) (x.term+1) i j:=by
     have hvo:=hS.vo
     rw[show(zBf x d).nodes=x.nodes from rfl,hn] at hvo
     refine zKq hvo (by show c.ns.length < 2*1;omega) fun v hv=>?_
     obtain⟨j,j1,_,j3⟩:=(p2.nd.cd rfl).2.1 v hv
     exact⟨j,j1,j3⟩
    have p3:=p2.lead hi hS hid hn rfl (by show 1≤x.term+1;omega) hM
    exact⟨_,p3.msg fun e he=>zBJ p3.nd rfl hid hL _ (by show(x.nodes.toNat:Int)≤x.nodes;omega) e he⟩
   ·exact⟨_,p2.msg fun e he=>zHp p2.nd rfl hid _ e he⟩
theorem zMP{c:CL}{i:Nat}{G:Gh}{x:ND}{d:List UInt8}(p:Pt c i G G x [])(hi:i < c.ns.length)(hF:NdF x)(hid:x.id=i)(hn:x.nodes=c.ns.length)(hr:x.role=2)(hP:NdF (yG x d)):∃G',Pt c i G G' (yG x d) (zAx (yG x d) x.nodes.toNat):=by
 have n1:=hF.n1
 have p2:=p.grow hi hF hid hn hr d
 exact⟨_,p2.msg fun e he=>zBJ p2.nd hr hid hP _ (by show(x.nodes.toNat:Int)≤x.nodes;omega) e he⟩
theorem zHh{ws sent:List PV}{e:PV}(h:e∈zLn ws sent):e∈ws∨e∈sent:=by
 unfold zLn at h
 rcases List.mem_append.1 h with h | h
 ·exact .inl h
 ·exact .inr (List.mem_of_mem_take h)
theorem zKs{c:CL}{G G':Gh}{i:Nat}(h:RI c G)(hi:i < c.ns.length){r:ND × List PV × Int}(hT:TkI c.ns.length (yH c.ns i) i r)(p:Pt c i G G' r.1 r.2.1):∃G2,RI (zKm c r.1 r.2.1).1 G2:=by
 have hC:=zJF h.I hi hT
 have hR:=zQw (sent:=r.2.1) h.R hi hT.id (hT.rt (h.R i hi))
 have e0:r.1.id.toNat=i:=by rw[hT.id,Int.toNat_natCast]
 unfold zKm at hC hR ⊢
 rw[e0] at hC hR ⊢
 split
 ·rename_i hw
  rw[if_pos hw] at hC hR
  exact⟨G',p.put h hi hC hR (fun e he=>zHh he) (zKc hT.F.c1) (zMy _ _ _) (DI.add p.g (p.E.di h.ds) p.nd.kn hT.F.c1)⟩
 ·exact⟨G,h⟩
theorem zLP{c:CL}{G G':Gh}{i:Nat}(h:RI c G)(hi:i < c.ns.length){b b':List UInt8}{sure keep:Int}{s:ST}(hD:zdj c i b sure keep s b'){sent:List PV}(p:Pt c i G G' (zQs i c.ns.length s) sent):RI (zPD c i b sure keep) G':=by
 have hC:=zQ7 h.I hi hD
 have hR:=zQ6 (b:=b) (sure:=sure) (keep:=keep) h.R hi
 unfold zPD at hC hR ⊢
 rw[hD.r,Int.toNat_natCast] at hC hR ⊢
 exact p.put h hi hC hR (fun e he=>.inl he) (by show(0:Int)≤_;omega) (Nat.le_refl _) (p.E.di h.ds)
theorem RI.ws{c:CL}{G:Gh}(h:RI c G){ws:List PV}(hI:ClI { c with ws:=ws })(hw:∀e∈ws,e∈c.ws):RI { c with ws:=ws } G:=
 ⟨hI,h.R,h.g,h.nd,fun e he=>h.ms e (hw e he),h.vc,h.vg,h.wt,h.cd,h.ds⟩
theorem zPP{c:CL}{G:Gh}(h:RI c G)(a:CA):∃G',RI (zKp c a).1 G':=by
 unfold zKp
 split
 ·exact⟨G,h⟩
 ·rename_i hn
  have hn:=zk.1 (show inB a.n 0 (c.ws.length - 1)=true by simpa using hn)
  have hlt:a.n.toNat < c.ws.length:=by omega
  have hmem:=zb hlt
  split
  ·split
   ·exact⟨G,h⟩
   ·rename_i hl
    have:=h.I.wl
    have hsub:∀e∈c.ws++[nth c.ws a.n.toNat],e∈c.ws:=fun e he=>by
     rcases List.mem_append.1 he with he | he
     ·exact he
     ·rw[List.mem_singleton.1 he];exact hmem
    exact⟨G,h.ws (h.I.ws (by rw[List.length_append];simp;omega) fun e he=>h.I.wm e (hsub e he)) hsub⟩
  ·have hsub:∀e∈c.ws.eraseIdx a.n.toNat,e∈c.ws:=fun e he=>List.mem_of_mem_eraseIdx he
   have hE:RI { c with ws:=c.ws.eraseIdx a.n.toNat } G:=h.ws (h.I.ws (by have:=List.length_eraseIdx_le c.ws a.n.toNat;have:=h.I.wl;omega) fun e he=>h.I.wm e (hsub e he)) hsub
   obtain⟨m,m1,m2,m3,m4,m5⟩:=h.I.wm _ hmem
   obtain⟨w1,w2⟩:=h.ms _ hmem
   rw[m1,zMS] at w1 w2 ⊢
   unfold zL9
   split
   ·exact⟨G,hE⟩
   ·obtain⟨i,hi⟩:∃i:Nat,m.to=i:=⟨m.to.toNat,by have:=(zKh m2).2;omega⟩
    have hil:i < c.ns.length:=by omega
    rw[hi,Int.toNat_natCast]
    obtain⟨_,_,_,a4⟩:=h.I.at hil
    show ∃G',RI (zHE _ a (zKe (yH c.ns i) m)).1 G'
    unfold zHE
    split
    ·exact⟨G,hE⟩
    ·rename_i hr
     obtain⟨hT,hr2,hup⟩:=za5 a4 m2 m3 hi m5 (Decidable.byContradiction hr)
     have e0:(zKe (yH c.ns i) m).1.id.toNat=i:=by rw[hT.id,Int.toNat_natCast]
     have p0:=hE.pt (i:=i) hil
     have p1:=p0.newer m.term
     rw[List.append_nil] at p1
     have hMg:=zTI (n:=yH c.ns i) m2 (by rw[a4.nds];exact m3)
     obtain⟨t1,t2,t3,t4⟩:=zTH (n:=yH c.ns i) (t:=m.term)
     have hup':(zCD (yH c.ns i) m.term).up=true:=by unfold zCD;split<;>exact hup
     have hmc:Mc { c with ws:=c.ws.eraseIdx a.n.toNat } i (zCD (yH c.ns i) m.term) m:=by
      refine⟨hil,zPx a4.F hMg.tM,hup',by rw[t2];exact a4.id,by rw[t3];exact a4.nds,fun _=>?_,?_,hMg.t1,hi,hMg.f0,m3,(zKh m2).1,hMg.i0,w2,⟨hMg.k1,hMg.k4⟩⟩
      ·rw[t1];have:=hMg.t1;unfold mxI;split<;>omega
      ·rw[t1];unfold mxI;split<;>omega
     have hN:NdF (yI (zCD (yH c.ns i) m.term) m).1:=by have:=hT.F;rw[hr2] at this;exact this
     split
     ·obtain⟨G2,p2⟩:=zIS p1 hmc w1 hN
      refine zKs hE hil hT (G':=G2) ?_
      rw[hr2];exact p2
     ·split
      ·rename_i hw
       rw[e0] at hw ⊢
       rw[hT.id]
       obtain⟨s,b',j,hD,hmid,_⟩:=zRh hE.I hil hT.F hT.nd hT.e hT.t a.keep hw
       have hmid':zWS (zD0 (yH c.ns i)) (zD0 (yI (zCD (yH c.ns i) m.term) m).1) s:=by
        have e2:(zKe (yH c.ns i) m).1=(yI (zCD (yH c.ns i) m.term) m).1:=by rw[hr2]
        rw[←e2];exact hmid
       obtain⟨G2,sent,p2⟩:=zP0 p0 hmc w1 hN hmid' c.ns.length
       exact⟨G2,zLP hE hil hD p2⟩
      ·exact⟨G,hE⟩
theorem zH8{c:CL}{G:Gh}{i:Nat}(h:RI c G)(hi:i < c.ns.length){r:ND × List PV × Int}(hT:r.2.2=0→TkI c.ns.length (yH c.ns i) i r∧∃G',Pt c i G G' r.1 r.2.1):∃G',RI (zCy c r).1 G':=by
 unfold zCy
 split
 ·exact⟨G,h⟩
 ·rename_i hr
  obtain⟨h1,G',h2⟩:=hT (Decidable.byContradiction hr)
  exact zKs h hi h1 h2
theorem zPu{c:CL}{G:Gh}(h:RI c G)(a:CA)(ha:inB a.node 0 (c.ns.length - 1)=true):∃G',RI (zIz c a).1 G':=by
 have hI:=zN5 h.I h.R a ha
 have ha:=zk.1 ha
 obtain⟨i,hi⟩:∃i:Nat,a.node=i:=⟨a.node.toNat,by omega⟩
 have hil:i < c.ns.length:=by omega
 have p:=h.pt hil
 unfold zIz at hI ⊢
 rw[hi,Int.toNat_natCast] at hI ⊢
 obtain⟨a1,a2,a3,a4⟩:=h.I.at hil
 split
 ·rename_i k6
  rw[if_pos k6] at hI
  split
  ·exact⟨G,h⟩
  ·rename_i k7
   rw[if_neg k7] at hI
   have p2:Pt c i G G (zO2 (yH c.ns i)) ([]++[]):=p.st (p.nd.set rfl rfl rfl rfl rfl rfl rfl) (Int.le_refl _) (by simp)
   exact⟨G,p2.put h hil hI.1 hI.2.1 (fun e he=>.inl he) (h.cd i hil) (Nat.le_refl _) h.ds⟩
 ·split
  ·exact⟨G,h⟩
  ·split
   ·refine⟨G,zLP h hil (zL4 h.I hil 0) (sent:=[]++[]) ?_⟩
    exact p.st (p.nd.down rfl rfl rfl rfl rfl) (Int.le_refl _) (by simp)
   ·split
    ·refine zH8 h hil fun hr=>?_
     obtain⟨hT,e,d0,d1,hu⟩:=zWQ a4 (h.R i hil) hr
     refine⟨hT,?_⟩
     rw[e]
     exact zMC p hil a4.F a4.id a4.nds d0 hu
    ·split
     ·exact⟨G,h⟩
     ·refine zH8 h hil fun hr=>?_
      obtain⟨hT,e,hro,hl,hu,hd⟩:=zWN a4 (h.R i hil) hr
      refine⟨hT,?_⟩
      have hF:=hT.F
      rw[e] at hF ⊢
      exact zMP p hil a4.F a4.id a4.nds hro hF
theorem zKy{c:CL}{G:Gh}(h:RI c G)(a:CA):∃G',RI (zAS c a).1 G':=by
 unfold zAS
 split
 ·exact zPP h a
 ·split
  ·split
   ·exact⟨G,h⟩
   ·rename_i ha
    exact zPu h a (by simpa using ha)
  ·exact⟨G,h⟩
def Gh.one:Gh:=⟨fun _=>False,fun _=>0,fun _=>[],fun _=>[],fun _ _=>[],fun _ _=>-1,fun _ _=>[],fun _ _=>0⟩
theorem zPw{nodes:Nat}(h1:1≤nodes)(h5:nodes≤5):RI (yR nodes) Gh.one:=by
 obtain⟨hI,hR⟩:=zK4 h1 h5
 have hl:(yR nodes).ns.length=nodes:=yL nodes nodes
 have hlp:∀l:List PV,l=[]→LP Gh.one.ll l:=fun l e p hp=>by rw[e] at hp;simp at hp
 have hx:∀i,i < nodes→yH (yR nodes).ns i=zCr i nodes 0 (-1) []:=fun i hi=>by
  rw[yH,show nth (yR nodes).ns i=_ from zBL _ _ _ hi];rfl
 refine⟨hI,hR,⟨fun _ _=>⟨rfl,rfl⟩,fun _=>⟨[],rfl,by simp⟩,fun _ e he=>by simp[Gh.one] at he,fun _=>hlp _ rfl,fun _ _=>hlp _ rfl,fun _ _ e he=>by simp[Gh.one] at he,fun _ _=>hlp _ rfl,fun _ _ i j _ hj=>by simp[Gh.one] at hj,fun _ h=>h.elim,fun _ _=>Nat.le_refl _⟩,fun i hi=>?_,fun e he=>by simp[yR] at he,fun t j k hk=>?_,fun t j k hk=>?_,fun _ h=>h.elim,fun i hi=>?_,.inl rfl⟩
 ·rw[hl] at hi
  rw[hx i hi]
  refine⟨hlp _ rfl,rfl,fun _ _=>rfl,fun _ _=>rfl,fun t k hk=>?_,.inl rfl,fun q=>absurd (show(0:Int)=2 from q) (by omega),fun q=>absurd (show(0:Int)=1 from q) (by omega)⟩
  have:k=0:=Nat.le_zero.1 hk
  left;rw[this];simp
 ·have:(-1:Int)=k:=hk
  omega
 ·have:(-1:Int)=k:=hk
  omega
 ·rw[hl] at hi
  rw[hx i hi]
  show(0:Int)≤_
  omega
theorem RI.agree{c:CL}{G:Gh}(h:RI c G){i:Nat}(hi:i < c.ns.length):((yH c.ns i).log.take (yH c.ns i).com.toNat).map zKW=c.ds.take (yH c.ns i).com.toNat:=by
 have hcd:=h.cd i hi
 rcases (h.nd i hi).kn with q | ⟨s,m,k1,k2,k3,k4⟩
 ·rw[q];simp
 ·rcases h.ds with d | ⟨t,k,d1,d2,d3⟩
  ·rw[d] at hcd
   have:(yH c.ns i).com.toNat=0:=by simp at hcd;omega
   rw[this];simp
  ·rw[k4,h.g.cm_cm k2 d1 (m:=(yH c.ns i).com.toNat) k3 (by omega),d3,List.map_take,List.map_take,List.take_take]
   congr 1
   have hl:c.ds.length=(((G.ll t).take c.ds.length).map zKW).length:=congrArg List.length d3
   simp only[List.length_map,List.length_take] at hl ⊢
   omega
theorem RI.holds{c:CL}{G:Gh}(h:RI c G)(hne:c.ds≠[]):Maj c.ns.length fun j=>c.ds.length≤(yH c.ns j).log.length∧((yH c.ns j).log.take c.ds.length).map zKW=c.ds:=by
 rcases h.ds with d | ⟨t,k,d1,d2,d3⟩
 ·exact absurd d hne
 ·have kl:=d1.kl
  refine d1.mj.mono fun j hj hk=>?_
  rcases (h.nd j hj).ab t c.ds.length (by omega) with q | ⟨r,r1,r2,r3,r4⟩
  ·exact⟨y8 q (by omega),by rw[q];exact d3.symm⟩
  ·exfalso
   have:=h.g.complete d1 _ r rfl r1 r3
   exact r4 (zBH this d2)
end
section
variable [zS]
def Grw(c d:CL):Prop:=∃r,d.ds=c.ds++r
theorem Grw.trans{c d e:CL}(h:Grw c d)(g:Grw d e):Grw c e:=by
 obtain⟨r,hr⟩:=h
 obtain⟨s,hs⟩:=g
 exact⟨r++s,by rw[hs,hr,List.append_assoc]⟩
def RX(c:CL):Prop:=∃G,RI c G
theorem RX.run:∀{acts:List PV} {c:CL},RX c→RX (yM c acts).1
 | [],_,h=>h
 | a :: acts,c,⟨G,h⟩=>by
  rw[yM]
  exact RX.run (zKy h (zDb a.A))
theorem RX.new{n:Nat}(h1:1≤n)(h5:n≤5):RX (yR n):=⟨_,zPw h1 h5⟩
theorem zGy{log:List PV}:∀{k:Nat},k≤log.length→zFv log k=(log.take k).map zKW
 | 0,_=>by simp[zFv]
 | k+1,h=>by rw[zFv,zGy (by omega),zd (by omega),List.map_append];rfl
theorem zR5(a:List PV)(k:Nat):zF0 (a.take k) a=true:=by
 have:=zFF (a.take k) (a.drop k)
 rwa[List.take_append_drop] at this
theorem RX.agree{c:CL}(h:RX c):zSg c.ns c.ds=true:=by
 obtain⟨G,h⟩:=h
 rw[zSg,List.all_eq_true]
 intro e he
 obtain⟨i,hi,rfl⟩:=List.mem_iff_getElem.1 he
 have e1:c.ns[i]=nth c.ns i:=by simp[nth,hi]
 rw[e1]
 obtain⟨a1,a2,a3,a4⟩:=h.I.at hi
 have hF:=a4.F
 have c0:=hF.c0;have c1:=hF.c1
 show zF0 (zFv (yH c.ns i).log (yH c.ns i).com.toNat) c.ds=true
 rw[zGy (by omega),h.agree hi]
 exact zR5 _ _
theorem zIe{ns:List PV}{Q:Nat→Bool}{p:PV→Bool}:∀{k:Nat},k≤ns.length→(∀i,i < k→Q i=true→p (nth ns i)=true)→cnB Q k≤((ns.take k).filter p).length
 | 0,_,_=>by simp[cnB]
 | k+1,h,hp=>by
  have ih:=zIe (k:=k) (by omega) fun i hi=>hp i (by omega)
  rw[zd (by omega),List.filter_append,List.length_append,cnB]
  have h1:=hp k (by omega)
  cases hq:Q k with
  | false=>simp only[Bool.false_eq_true,if_false];omega
  | true=>rw[List.filter_cons,if_pos (h1 hq)];simp;omega
theorem RX.holds{c:CL}(h:RX c):c.ns.length < 2*zNr c.ns c.ds:=by
 obtain⟨G,h⟩:=h
 have n1:=h.I.n1
 by_cases hd:c.ds=[]
 ·have e:zNr c.ns c.ds=c.ns.length:=by
   rw[zNr,hd,List.filter_eq_self.2]
   intro e _
   exact zFF [] _
  rw[e];omega
 ·obtain⟨Q,q1,q2⟩:=h.holds hd
  have:=zIe (ns:=c.ns) (Q:=Q) (p:=fun e=>zF0 c.ds (zFv (z8 e.A).log (z8 e.A).log.length)) (k:=c.ns.length) (Nat.le_refl _) fun i hi hq=>by
   obtain⟨r1,r2⟩:=q2 i hi hq
   show zF0 c.ds (zFv (yH c.ns i).log (yH c.ns i).log.length)=true
   rw[zGy (Nat.le_refl _),List.take_length]
   have e:(yH c.ns i).log.map zKW=c.ds++((yH c.ns i).log.drop c.ds.length).map zKW:=by
    rw[←r2,←List.map_append,r2,List.take_append_drop]
   rw[e];exact zFF _ _
  rw[List.take_length] at this
  have hh:zNr c.ns c.ds=(c.ns.filter fun e=>zF0 c.ds (zFv (z8 e.A).log (z8 e.A).log.length)).length:=rfl
  omega
theorem RX.I{c:CL}(h:RX c):ClI c:=by
 obtain⟨_,h⟩:=h
 exact h.I
end
section
variable [zS]
def CA.pv(a:CA):PV:=.agg [.int .i64 a.kind,.int .i64 a.node,.int .i64 a.n,.int .i64 a.keep,.str a.data]
def zC5(es:List PV)(m:Int):Int:=if m < 1+(es.length:Int) / 12 then m else 1+(es.length:Int) / 12
def zRq(es:List PV)(s:Src)(w:Int):CA × Src:=
 let a:=ye es s w
 let b:=ye es a.2 2
 let k:=ye es b.2 20
 let n:=if b.1=1 then 0 else a.1
 if k.1=0 then (⟨3,0,n,0,[]⟩,k.2) else if k.1=1 then (⟨4,0,n,0,[]⟩,k.2) else if k.1=2 then (⟨8,0,n,(ye es k.2 120).1,[]⟩,(ye es k.2 120).2) else (⟨2,0,n,0,[]⟩,k.2)
def zEM(ns:List PV):Nat→Int→Int
 | 0,k=>k
 | i+1,k=>if (nth (nth ns i).A 4).I=2 then i else zEM ns i k
def zPv(es:List PV)(s:Src)(ns:List PV)(d:List UInt8):CA × Src:=
 let a:=ye es s ns.length
 let k:=ye es a.2 14
 if k.1=0 then (⟨5,a.1,0,0,[]⟩,k.2) else if k.1=1∨k.1=2 then (⟨6,a.1,0,0,[]⟩,k.2)
 else if k.1=3∨k.1=4∨k.1=5 then (⟨7,zEM ns ns.length a.1,0,0,d⟩,k.2)
 else (⟨1,a.1,(ye es k.2 9).1,0,[]⟩,(ye es k.2 9).2)
def zG4(es:List PV)(s:Src)(ns:List PV)(w:Nat)(d:List UInt8):CA × Src:=
 if 0 < w then (if (ye es s 3).1=2 then zPv es (ye es s 3).2 ns d else zRq es (ye es s 3).2 w) else zPv es s ns d
theorem zL8{es:List PV}{s:Src}{w k:Int}(hc:zAa es)(h:z9 s.p s.q k)(hk:12≤k):z9 (zRq es s w).2.p (zRq es s w).2.q (k - 12):=by
 have a:=zg (n:=w) hc h (by omega)
 have b:=zg (n:=2) hc a.1 (by omega)
 have c:=zg (n:=20) hc b.1 (by omega)
 have d:=zg (n:=120) hc c.1 (by omega)
 unfold zRq
 simp only
 split
 ·exact c.1.mono (by omega)
 ·split
  ·exact c.1.mono (by omega)
  ·split
   ·exact d.1.mono (by omega)
   ·exact c.1.mono (by omega)
theorem zH7{es:List PV}{s:Src}{ns:List PV}{d:List UInt8}{k:Int}(hc:zAa es)(h:z9 s.p s.q k)(hk:9≤k):z9 (zPv es s ns d).2.p (zPv es s ns d).2.q (k - 9):=by
 have a:=zg (n:=ns.length) hc h (by omega)
 have b:=zg (n:=14) hc a.1 (by omega)
 have c:=zg (n:=9) hc b.1 (by omega)
 unfold zPv
 simp only
 split
 ·exact b.1.mono (by omega)
 ·split
  ·exact b.1.mono (by omega)
  ·split
   ·exact b.1.mono (by omega)
   ·exact c.1.mono (by omega)
theorem zMz{es:List PV}{s:Src}{ns:List PV}{w:Nat}{d:List UInt8}{k:Int}(hc:zAa es)(h:z9 s.p s.q k)(hk:15≤k):z9 (zG4 es s ns w d).2.p (zG4 es s ns w d).2.q (k - 15):=by
 have a:=zg (n:=3) hc h (by omega)
 unfold zG4
 split
 ·split
  ·exact(zH7 hc a.1 (by omega)).mono (by omega)
  ·exact(zL8 hc a.1 (by omega)).mono (by omega)
 ·exact(zH7 hc h (by omega)).mono (by omega)
def tkD(es:List PV)(k:Int):Nat→Src→List PV→List PV × Src
 | 0,s,acc=>(acc,s)
 | i+1,s,acc=>tkD es k i (ye es s 3).2 (acc++[.agg [.int .i64 1,.int .i64 k,.int .i64 (ye es s 3).1,.int .i64 0,.str []]])
def gvD:Nat→List PV→List PV
 | 0,acc=>acc
 | i+1,acc=>gvD i (acc++[.agg [.int .i64 2,.int .i64 0,.int .i64 0,.int .i64 0,.str []]])
theorem zKu{es:List PV}{a:Int}(hc:zAa es):∀(i:Nat) (s:Src) (acc:List PV) (k:Int),z9 s.p s.q k→3*(i:Int)≤k→z9 (tkD es a i s acc).2.p (tkD es a i s acc).2.q (k - 3*i)∧(tkD es a i s acc).1.length=acc.length+i
 | 0,s,acc,k,h,_=>⟨by simpa[tkD] using h,rfl⟩
 | i+1,s,acc,k,h,hk=>by
  have h1:=zg (n:=3) hc h (by omega)
  have h2:=zKu hc (a:=a) i (ye es s 3).2 (acc++[.agg [.int .i64 1,.int .i64 a,.int .i64 (ye es s 3).1,.int .i64 0,.str []]]) (k - 3) h1.1 (by omega)
  rw[tkD]
  refine⟨h2.1.mono (by omega),?_⟩
  rw[h2.2,List.length_append,List.length_singleton];omega
theorem zIT:∀(i:Nat) (acc:List PV),(gvD i acc).length=acc.length+i
 | 0,_=>rfl
 | i+1,acc=>by rw[gvD,zIT i,List.length_append,List.length_singleton];omega
def zIZ(es:List PV)(s:Src)(n:Int):List PV × Src:=
 let k:=ye es s n
 let t:=tkD es k.1 13 k.2 []
 let g:=ye es t.2 12
 (gvD g.1.toNat t.1,g.2)
theorem zMr{es:List PV}{s:Src}{n k:Int}(hc:zAa es)(h:z9 s.p s.q k)(hk:45≤k):z9 (zIZ es s n).2.p (zIZ es s n).2.q (k - 45)∧(zIZ es s n).1.length≤24:=by
 have a:=zg (n:=n) hc h (by omega)
 have b:=zKu hc (a:=(ye es s n).1) 13 (ye es s n).2 [] (k - 3) a.1 (by omega)
 have c:=zg (n:=12) hc b.1 (by omega)
 have c2:=c.2.2 (by omega)
 unfold zIZ
 simp only
 refine⟨c.1.mono (by omega),?_⟩
 rw[zIT,b.2]
 simp only[List.length_nil]
 omega
def wdL:List PV:=[.str [111,110,101],.str [116,119,111],.str [116,104,114,101,101],.str [102,111,117,114]]
def zGo(es:List PV)(s:Src)(c:CL)(out:List PV):List PV × Src:=
 if (ye es s 12).1=11∨out.length=0 then zIZ es (ye es s 12).2 c.ns.length else ([],(ye es s 12).2)
def zRw(es:List PV)(s:Src)(c:CL):CA × Src:=zG4 es (zCl es s wdL).2 c.ns c.ws.length (zCl es s wdL).1
def zJI(es:List PV)(s:Src)(c:CL)(out:List PV):List PV × Src:=
 ((zGo es s c out).1++[(zRw es (zGo es s c out).2 c).1.pv],(zRw es (zGo es s c out).2 c).2)
theorem zFW{es:List PV}{s:Src}{c:CL}{out:List PV}{k:Int}(hc:zAa es)(h:z9 s.p s.q k)(hk:48≤k):z9 (zGo es s c out).2.p (zGo es s c out).2.q (k - 48)∧(zGo es s c out).1.length≤24:=by
 have a:=zg (n:=12) hc h (by omega)
 have b:=zMr (n:=c.ns.length) hc a.1 (by omega)
 unfold zGo
 split
 ·exact⟨b.1.mono (by omega),b.2⟩
 ·exact⟨a.1.mono (by omega),by simp⟩
theorem zMK{es:List PV}{s:Src}{c:CL}{k:Int}(hc:zAa es)(h:z9 s.p s.q k)(hk:18≤k):z9 (zRw es s c).2.p (zRw es s c).2.q (k - 18):=
 (zMz hc (zD3 hc h (by omega)) (by omega)).mono (by omega)
theorem zFX{es:List PV}{s:Src}{c:CL}{out:List PV}{k:Int}(hc:zAa es)(h:z9 s.p s.q k)(hk:66≤k):z9 (zJI es s c out).2.p (zJI es s c out).2.q (k - 66)∧(zJI es s c out).1.length≤25:=by
 have a:=zFW (c:=c) (out:=out) hc h (by omega)
 have b:=zMK (c:=c) hc a.1 (by omega)
 refine⟨b.mono (by omega),?_⟩
 have:=a.2
 unfold zJI
 simp only[List.length_append,List.length_singleton]
 omega
def zIm(es:List PV)(n:Nat):Nat→Src→List PV→List PV × Src
 | 0,s,out=>(out,s)
 | i+1,s,out=>if out.length < 200 then zIm es n i (zJI es s (yM (yR n) out).1 out).2 (out++(zJI es s (yM (yR n) out).1 out).1) else (out,s)
theorem zGe{es:List PV}{n:Nat}(hc:zAa es):∀(i:Nat) (s:Src) (out:List PV) (k:Int),z9 s.p s.q k→66*(i:Int)≤k→out.length≤240→(zIm es n i s out).1.length≤240
 | 0,s,out,k,_,_,h=>h
 | i+1,s,out,k,h,hk,hl=>by
  rw[zIm]
  split
  ·have a:=zFX (c:=(yM (yR n) out).1) (out:=out) hc h (by omega)
   refine zGe hc i _ _ (k - 66) a.1 (by omega) ?_
   have:=a.2
   rw[List.length_append];omega
  ·exact hl
def zM0(es:List PV)(s:Src)(n:Nat):List PV × Src:=
 zIm es n (ye es s (zC5 es 120+30)).1.toNat (ye es s (zC5 es 120+30)).2 []
theorem zFx(es:List PV):1≤zC5 es 120∧zC5 es 120≤120:=by
 unfold zC5
 split<;>omega
theorem zKd{es:List PV}{s:Src}{n:Nat}{k:Int}(hc:zAa es)(h:z9 s.p s.q k)(hk:9999≤k):(zM0 es s n).1.length≤240:=by
 have a:=zg (n:=zC5 es 120+30) hc h (by omega)
 have b:=zFx es
 have c:=a.2.2 (by omega)
 exact zGe hc _ _ _ (k - 3) a.1 (by omega) (by simp)
theorem zFz{acts:List PV}{a:PV}{c:CL}:(yM c (acts++[a])).1=(zAS (yM c acts).1 (zDb a.A)).1:=by rw[zCu];rfl
def acE(e:PV):Prop:=∃a:CA,e=a.pv
theorem zKv{es:List PV}{k:Int}:∀(i:Nat) (s:Src) (acc:List PV),(∀e∈acc,acE e)→∀e∈(tkD es k i s acc).1,acE e
 | 0,_,_,h=>h
 | i+1,s,acc,h=>by
  rw[tkD]
  refine zKv i _ _ fun e he=>?_
  rcases List.mem_append.1 he with q | q
  ·exact h e q
  ·rw[List.mem_singleton.1 q];exact⟨⟨1,k,(ye es s 3).1,0,[]⟩,rfl⟩
theorem zLL:∀(i:Nat) (acc:List PV),(∀e∈acc,acE e)→∀e∈gvD i acc,acE e
 | 0,_,h=>h
 | i+1,acc,h=>by
  rw[gvD]
  refine zLL i _ fun e he=>?_
  rcases List.mem_append.1 he with q | q
  ·exact h e q
  ·rw[List.mem_singleton.1 q];exact⟨⟨2,0,0,0,[]⟩,rfl⟩
theorem zMs{es:List PV}{s:Src}{n:Int}:∀e∈(zIZ es s n).1,acE e:=zLL _ _ (zKv _ _ _ fun _ h=>by cases h)
theorem zHy{es:List PV}{s:Src}{c:CL}{out:List PV}:∀e∈(zGo es s c out).1,acE e:=by
 unfold zGo
 split
 ·exact zMs
 ·intro e h;cases h
end
section
variable [zS]
def zA1:zJ:=⟨[(.bs,.box [.list (.int .u8),.int .i64,.int .i64]),(.rd,.int .i64)],[.int .i64],true,fun _=>True,fun ps=>[.int .i64 (zC5 (nth (nth ps 0).A 0).L (nth ps 1).I)],fun ps=>[.agg [.list [],.int .i64 (nth (nth ps 0).A 1).I,.int .i64 (nth (nth ps 0).A 2).I]]⟩
theorem zQH:zh Tryz.prog 129 zA1:=by
 refine zP [0,1,4] [.tmp 4] (zD (zB [])) mixed Tryz.func129 rfl (by decide) rfl (by decide) rfl ?_
 intro ps hT hpre W hW
 simp only[zA1,TyA,Ty,Tys] at hT hpre
 obtain⟨_,_,rfl,⟨_,rfl,_,_,rfl,⟨es,rfl,hes,tes⟩,_,_,rfl,⟨p,rfl,hp⟩,_,_,rfl,⟨q,rfl,hq⟩,rfl⟩,_,_,rfl,⟨m,rfl,hm⟩,rfl⟩:=hT
 refine hW.vc [] _ _ ?_
 simp[-List.getD_eq_getElem?_getD,zA1]
 intro _
 rw[zC (n:=(es.length:Int) / 12) (by omega),zC (n:=1+(es.length:Int) / 12) (by omega)]
 rfl
attribute [local irreducible] z9
theorem zMo{P:Program}{f:FuncId}{s:zJ}{p1 p2:List PV→Prop}(h1:zh P f { s with pre:=p1 })(h2:zh P f { s with pre:=p2 })(h:∀ps,s.pre ps→p1 ps∨p2 ps):zh P f s:=
 ⟨fun w ps vs fs fl ms a b c d e=>(h ps d).elim (fun q=>h1.1 w ps vs fs fl ms a b c q e) (fun q=>h2.1 w ps vs fs fl ms a b c q e),h1.2⟩
def zK:zJ:=⟨[(.bs,.box [.list (.int .u8),.int .i64,.int .i64]),(.rd,.agg [.list (.agg [.int .i64,.int .i64,.int .i64,.int .i64,.int .i64,.bool,.list (.agg [.int .i64,.str]),.int .i64,.int .i64,.int .i64,.list (.int .i64),.list (.int .i64),.list (.int .i64)]),.list (.agg [.str,.int .i64]),.list (.agg [.int .i64,.int .i64,.int .i64,.int .i64,.int .i64,.int .i64,.int .i64,.bool,.list (.agg [.int .i64,.str])]),.list .str]),(.rd,.str)],[.agg [.int .i64,.int .i64,.int .i64,.int .i64,.str]],true,fun ps=>z9 (nth (nth ps 0).A 1).I (nth (nth ps 0).A 2).I 15∧(nth (nth ps 1).A 0).L.length≤1000,
 fun ps=>[(zG4 (nth (nth ps 0).A 0).L ⟨(nth (nth ps 0).A 1).I,(nth (nth ps 0).A 2).I⟩ (nth (nth ps 1).A 0).L (nth (nth ps 1).A 2).L.length (nth ps 2).S).1.pv],
 fun ps=>[.agg [.list [],.int .i64 (zG4 (nth (nth ps 0).A 0).L ⟨(nth (nth ps 0).A 1).I,(nth (nth ps 0).A 2).I⟩ (nth (nth ps 1).A 0).L (nth (nth ps 1).A 2).L.length (nth ps 2).S).2.p,.int .i64 (zG4 (nth (nth ps 0).A 0).L ⟨(nth (nth ps 0).A 1).I,(nth (nth ps 0).A 2).I⟩ (nth (nth ps 1).A 0).L (nth (nth ps 1).A 2).L.length (nth ps 2).S).2.q]]⟩
def yj:zJ:={ zK with pre:=fun ps=>zK.pre ps∧(nth (nth ps 1).A 2).L.length=0 }
def yi:zJ:={ zK with pre:=fun ps=>zK.pre ps∧0 < (nth (nth ps 1).A 2).L.length }
set_option maxHeartbeats 2000000 in
theorem zEB:zh Tryz.prog 132 yj:=by
 refine zP [0,1,2,4,6,7,8,9,10,11,33,51] [.cell 6 54] (zA (cs:=[]) zAq (zD (zB []))) mixed Tryz.func132 rfl (by decide) rfl (by decide) rfl ?_
 intro ps hT hpre W hW
 simp only[yj,TyA,Ty,Tys] at hT hpre
 simp only[zK,TyA,Ty,Tys] at hT hpre
 obtain⟨_,_,rfl,⟨_,rfl,_,_,rfl,⟨es,rfl,hes,tes⟩,_,_,rfl,⟨p,rfl,hp⟩,_,_,rfl,⟨q,rfl,hq⟩,rfl⟩,_,_,rfl,⟨_,rfl,_,_,rfl,⟨ns,rfl,hns,tns⟩,_,_,rfl,⟨ss,rfl,hss,tss⟩,_,_,rfl,⟨ws,rfl,hws,tws⟩,_,_,rfl,⟨ds,rfl,hds,tds⟩,rfl⟩,_,_,rfl,⟨d,rfl,hd⟩,rfl⟩:=hT
 simp only[zE,zF,zBE,yp,zAA] at hpre
 obtain⟨⟨h1,h2⟩,h0⟩:=hpre
 have hc:=yd tes
 obtain rfl:=List.length_eq_zero_iff.1 h0
 obtain⟨y,hy⟩:∃y,y=ye es ⟨p,q⟩ ns.length:=⟨_,rfl⟩
 obtain⟨z,hz⟩:∃z,z=ye es y.2 14:=⟨_,rfl⟩
 obtain⟨u,hu⟩:∃u,u=ye es z.2 9:=⟨_,rfl⟩
 have ky:=zg (s:=⟨p,q⟩) (n:=ns.length) hc h1 (by omega)
 rw[←hy] at ky
 have kz:=zg (n:=14) hc ky.1 (by omega)
 rw[←hz] at kz
 obtain⟨R,hR⟩:∃R,R=zG4 es ⟨p,q⟩ ns 0 d:=⟨_,rfl⟩
 have hN:R=if z.1=0 then (⟨5,y.1,0,0,[]⟩,z.2) else if z.1=1∨z.1=2 then (⟨6,y.1,0,0,[]⟩,z.2) else if z.1=3∨z.1=4∨z.1=5 then (⟨7,zEM ns ns.length y.1,0,0,d⟩,z.2) else (⟨1,y.1,u.1,0,[]⟩,u.2):=by
  rw[hR,hu,hz,hy];rfl
 have e0:z.1=0→R=(⟨5,y.1,0,0,[]⟩,z.2):=fun h=>by rw[hN,if_pos h]
 have e1:z.1=1→R=(⟨6,y.1,0,0,[]⟩,z.2):=fun h=>by rw[hN,if_neg (by omega),if_pos (.inl h)]
 have e2:z.1=2→R=(⟨6,y.1,0,0,[]⟩,z.2):=fun h=>by rw[hN,if_neg (by omega),if_pos (.inr h)]
 have e3:z.1=3→R=(⟨7,zEM ns ns.length y.1,0,0,d⟩,z.2):=fun h=>by rw[hN,if_neg (by omega),if_neg (by omega),if_pos (.inl h)]
 have e4:z.1=4→R=(⟨7,zEM ns ns.length y.1,0,0,d⟩,z.2):=fun h=>by rw[hN,if_neg (by omega),if_neg (by omega),if_pos (.inr (.inl h))]
 have e5:z.1=5→R=(⟨7,zEM ns ns.length y.1,0,0,d⟩,z.2):=fun h=>by rw[hN,if_neg (by omega),if_neg (by omega),if_pos (.inr (.inr h))]
 have e6:¬z.1=0→¬z.1=1→¬z.1=2→¬z.1=3→¬z.1=4→¬z.1=5→R=(⟨1,y.1,u.1,0,[]⟩,u.2):=fun q0 q1 q2 q3 q4 q5=>by rw[hN,if_neg q0,if_neg (by omega),if_neg (by omega)]
 refine hW.vc [] _ _ ?_
 simp[-List.getD_eq_getElem?_getD,yj,zV,zK,zK,CA.pv,←hy,←hz,←hu,←hR]
 repeat' (first | apply And.intro | intro _)
 all_goals try contradiction
 all_goals try exact h1.mono (by omega)
 all_goals try exact ky.1.mono (by omega)
 all_goals try exact kz.1.mono (by omega)
 all_goals try (rw[e0 (by assumption)]<;>rfl)
 all_goals try (rw[e1 (by assumption)]<;>rfl)
 all_goals try (rw[e2 (by assumption)]<;>rfl)
 all_goals try (rw[e6 (by assumption) (by assumption) (by assumption) (by assumption) (by assumption) (by assumption)]<;>rfl)
 all_goals
  have eP:R=(⟨7,zEM ns ns.length y.1,0,0,d⟩,z.2):=by first | exact e3 (by assumption) | exact e4 (by assumption) | exact e5 (by assumption)
  refine hW.loopS _ _ _ [.sl 10 .dp (.int .i64),.sl 11 .dp (.int .i64)] (fun ys=>∃i:Nat,ys=[.int .i64 (zEM ns i y.1),.int .i64 i]∧i≤ns.length) (fun ys=>ns.length - (nth ys 1).I.toNat) ?_ ?_
  ·simp[-List.getD_eq_getElem?_getD,yj,zV,zK]
   exact⟨0,⟨rfl,rfl⟩,by omega⟩
  ·rintro ys ⟨i,rfl,g1⟩
   have w1:IntKind.i64.wrap ((i:Int)+1)=i+1:=zC (by omega)
   refine hW.vc [] _ _ ?_
   simp[-List.getD_eq_getElem?_getD,yj,zV,zK,zK,CA.pv,←hR,w1]
   rw[eP]
   refine⟨fun h=>⟨h,fun _=>⟨fun h3=>⟨⟨i+1,⟨by rw[zEM,if_pos h3],by omega⟩,by omega⟩,by omega⟩,fun h3=>⟨⟨i+1,⟨by rw[zEM,if_neg h3],by omega⟩,by omega⟩,by omega⟩⟩⟩,fun h=>?_⟩
   have e:i=ns.length:=by omega
   rw[e];exact⟨⟨rfl,rfl,rfl,rfl,rfl⟩,rfl,rfl⟩
set_option maxHeartbeats 2000000 in
theorem zEA:zh Tryz.prog 132 yi:=by
 refine zP [0,1,2,4,6,7,8,9,10,11,33,51] [.cell 6 54] (zA (cs:=[]) zGB (zA (cs:=[]) zAq (zD (zB [])))) mixed Tryz.func132 rfl (by decide) rfl (by decide) rfl ?_
 intro ps hT hpre W hW
 simp only[yi,TyA,Ty,Tys] at hT hpre
 simp only[zK,TyA,Ty,Tys] at hT hpre
 obtain⟨_,_,rfl,⟨_,rfl,_,_,rfl,⟨es,rfl,hes,tes⟩,_,_,rfl,⟨p,rfl,hp⟩,_,_,rfl,⟨q,rfl,hq⟩,rfl⟩,_,_,rfl,⟨_,rfl,_,_,rfl,⟨ns,rfl,hns,tns⟩,_,_,rfl,⟨ss,rfl,hss,tss⟩,_,_,rfl,⟨ws,rfl,hws,tws⟩,_,_,rfl,⟨ds,rfl,hds,tds⟩,rfl⟩,_,_,rfl,⟨d,rfl,hd⟩,rfl⟩:=hT
 simp only[zE,zF,zBE,yp,zAA] at hpre
 obtain⟨⟨h1,h2⟩,h0⟩:=hpre
 have hc:=yd tes
 obtain⟨x,hx⟩:∃x,x=ye es ⟨p,q⟩ 3:=⟨_,rfl⟩
 have kx:=zg (s:=⟨p,q⟩) (n:=3) hc h1 (by omega)
 rw[←hx] at kx
 obtain⟨y,hy⟩:∃y,y=ye es x.2 ns.length:=⟨_,rfl⟩
 obtain⟨z,hz⟩:∃z,z=ye es y.2 14:=⟨_,rfl⟩
 obtain⟨u,hu⟩:∃u,u=ye es z.2 9:=⟨_,rfl⟩
 have ky:=zg (n:=ns.length) hc kx.1 (by omega)
 rw[←hy] at ky
 have kz:=zg (n:=14) hc ky.1 (by omega)
 rw[←hz] at kz
 obtain⟨a,ha⟩:∃a,a=ye es x.2 ws.length:=⟨_,rfl⟩
 obtain⟨b,hb⟩:∃b,b=ye es a.2 2:=⟨_,rfl⟩
 obtain⟨c,hcc⟩:∃c,c=ye es b.2 20:=⟨_,rfl⟩
 obtain⟨e,he⟩:∃e,e=ye es c.2 120:=⟨_,rfl⟩
 have ka:=zg (n:=ws.length) hc kx.1 (by omega)
 rw[←ha] at ka
 have kb:=zg (n:=2) hc ka.1 (by omega)
 rw[←hb] at kb
 have kc:=zg (n:=20) hc kb.1 (by omega)
 rw[←hcc] at kc
 obtain⟨R,hR⟩:∃R,R=zG4 es ⟨p,q⟩ ns ws.length d:=⟨_,rfl⟩
 have hN:x.1=2→R=if z.1=0 then (⟨5,y.1,0,0,[]⟩,z.2) else if z.1=1∨z.1=2 then (⟨6,y.1,0,0,[]⟩,z.2) else if z.1=3∨z.1=4∨z.1=5 then (⟨7,zEM ns ns.length y.1,0,0,d⟩,z.2) else (⟨1,y.1,u.1,0,[]⟩,u.2):=fun h=>by
  rw[hR,zG4,if_pos h0,←hx,if_pos h,hu,hz,hy];rfl
 have hM:¬x.1=2→R=if c.1=0 then (⟨3,0,if b.1=1 then 0 else a.1,0,[]⟩,c.2) else if c.1=1 then (⟨4,0,if b.1=1 then 0 else a.1,0,[]⟩,c.2) else if c.1=2 then (⟨8,0,if b.1=1 then 0 else a.1,e.1,[]⟩,e.2) else (⟨2,0,if b.1=1 then 0 else a.1,0,[]⟩,c.2):=fun h=>by
  rw[hR,zG4,if_pos h0,←hx,if_neg h,he,hcc,hb,ha];rfl
 have e0:x.1=2→z.1=0→R=(⟨5,y.1,0,0,[]⟩,z.2):=fun hx2 h=>by rw[hN hx2,if_pos h]
 have e1:x.1=2→z.1=1→R=(⟨6,y.1,0,0,[]⟩,z.2):=fun hx2 h=>by rw[hN hx2,if_neg (by omega),if_pos (.inl h)]
 have e2:x.1=2→z.1=2→R=(⟨6,y.1,0,0,[]⟩,z.2):=fun hx2 h=>by rw[hN hx2,if_neg (by omega),if_pos (.inr h)]
 have e3:x.1=2→z.1=3→R=(⟨7,zEM ns ns.length y.1,0,0,d⟩,z.2):=fun hx2 h=>by rw[hN hx2,if_neg (by omega),if_neg (by omega),if_pos (.inl h)]
 have e4:x.1=2→z.1=4→R=(⟨7,zEM ns ns.length y.1,0,0,d⟩,z.2):=fun hx2 h=>by rw[hN hx2,if_neg (by omega),if_neg (by omega),if_pos (.inr (.inl h))]
 have e5:x.1=2→z.1=5→R=(⟨7,zEM ns ns.length y.1,0,0,d⟩,z.2):=fun hx2 h=>by rw[hN hx2,if_neg (by omega),if_neg (by omega),if_pos (.inr (.inr h))]
 have e6:x.1=2→¬z.1=0→¬z.1=1→¬z.1=2→¬z.1=3→¬z.1=4→¬z.1=5→R=(⟨1,y.1,u.1,0,[]⟩,u.2):=fun hx2 q0 q1 q2 q3 q4 q5=>by rw[hN hx2,if_neg q0,if_neg (by omega),if_neg (by omega)]
 have f0:¬x.1=2→c.1=0→R=(⟨3,0,if b.1=1 then 0 else a.1,0,[]⟩,c.2):=fun h h2=>by rw[hM h,if_pos h2]
 have f1:¬x.1=2→c.1=1→R=(⟨4,0,if b.1=1 then 0 else a.1,0,[]⟩,c.2):=fun h h2=>by rw[hM h,if_neg (by omega),if_pos h2]
 have f2:¬x.1=2→c.1=2→R=(⟨8,0,if b.1=1 then 0 else a.1,e.1,[]⟩,e.2):=fun h h2=>by rw[hM h,if_neg (by omega),if_neg (by omega),if_pos h2]
 have f3:¬x.1=2→¬c.1=0→¬c.1=1→¬c.1=2→R=(⟨2,0,if b.1=1 then 0 else a.1,0,[]⟩,c.2):=fun h q0 q1 q2=>by rw[hM h,if_neg q0,if_neg q1,if_neg q2]
 refine hW.vc [] _ _ ?_
 simp[-List.getD_eq_getElem?_getD,yi,zV,yD,zK,zK,CA.pv,h0,←hx,←hy,←hz,←hu,←ha,←hb,←hcc,←he,←hR]
 repeat' (first | apply And.intro | intro _)
 all_goals try contradiction
 all_goals try exact h1.mono (by omega)
 all_goals try exact kx.1.mono (by omega)
 all_goals try exact ka.1.mono (by omega)
 all_goals try exact kb.1.mono (by omega)
 all_goals try exact kc.1.mono (by omega)
 all_goals try exact ky.1.mono (by omega)
 all_goals try exact kz.1.mono (by omega)
 all_goals try (rw[e0 (by assumption) (by assumption)]<;>rfl)
 all_goals try (rw[e1 (by assumption) (by assumption)]<;>rfl)
 all_goals try (rw[e2 (by assumption) (by assumption)]<;>rfl)
 all_goals try (rw[e6 (by assumption) (by assumption) (by assumption) (by assumption) (by assumption) (by assumption) (by assumption)]<;>rfl)
 all_goals try (rw[f0 (by assumption) (by assumption)]<;>first | rfl | (rw[if_pos (by assumption)]) | (rw[if_neg (by assumption)]))
 all_goals try (rw[f1 (by assumption) (by assumption)]<;>first | rfl | (rw[if_pos (by assumption)]) | (rw[if_neg (by assumption)]))
 all_goals try (rw[f2 (by assumption) (by assumption)]<;>first | rfl | (rw[if_pos (by assumption)]) | (rw[if_neg (by assumption)]))
 all_goals try (rw[f3 (by assumption) (by assumption) (by assumption) (by assumption)]<;>first | rfl | (rw[if_pos (by assumption)]) | (rw[if_neg (by assumption)]))
 all_goals
  have eP:R=(⟨7,zEM ns ns.length y.1,0,0,d⟩,z.2):=by first | exact e3 (by assumption) (by assumption) | exact e4 (by assumption) (by assumption) | exact e5 (by assumption) (by assumption)
  refine hW.loopS _ _ _ [.sl 10 .dp (.int .i64),.sl 11 .dp (.int .i64)] (fun ys=>∃i:Nat,ys=[.int .i64 (zEM ns i y.1),.int .i64 i]∧i≤ns.length) (fun ys=>ns.length - (nth ys 1).I.toNat) ?_ ?_
  ·simp[-List.getD_eq_getElem?_getD,yi,zV,yD,zK]
   exact⟨0,⟨rfl,rfl⟩,by omega⟩
  ·rintro ys ⟨i,rfl,g1⟩
   have w1:IntKind.i64.wrap ((i:Int)+1)=i+1:=zC (by omega)
   refine hW.vc [] _ _ ?_
   simp[-List.getD_eq_getElem?_getD,yi,zV,yD,zK,zK,CA.pv,←hR,w1]
   rw[eP]
   refine⟨fun h=>⟨h,fun _=>⟨fun h3=>⟨⟨i+1,⟨by rw[zEM,if_pos h3],by omega⟩,by omega⟩,by omega⟩,fun h3=>⟨⟨i+1,⟨by rw[zEM,if_neg h3],by omega⟩,by omega⟩,by omega⟩⟩⟩,fun h=>?_⟩
   have e:i=ns.length:=by omega
   rw[e];exact⟨⟨rfl,rfl,rfl,rfl,rfl⟩,rfl,rfl⟩
theorem zEk:zh Tryz.prog 132 zK:=
 zMo zEB zEA fun ps h=>by
  rcases Nat.eq_zero_or_pos (nth (nth ps 1).A 2).L.length with e | e
  ·exact .inl ⟨h,e⟩
  ·exact .inr ⟨h,e⟩
def yQ:zJ:=⟨[(.bs,.box [.list (.int .u8),.int .i64,.int .i64]),(.rd,.agg [.list (.agg [.int .i64,.int .i64,.int .i64,.int .i64,.int .i64,.bool,.list (.agg [.int .i64,.str]),.int .i64,.int .i64,.int .i64,.list (.int .i64),.list (.int .i64),.list (.int .i64)]),.list (.agg [.str,.int .i64]),.list (.agg [.int .i64,.int .i64,.int .i64,.int .i64,.int .i64,.int .i64,.int .i64,.bool,.list (.agg [.int .i64,.str])]),.list .str])],[.list (.agg [.int .i64,.int .i64,.int .i64,.int .i64,.str])],true,fun ps=>z9 (nth (nth ps 0).A 1).I (nth (nth ps 0).A 2).I 45,
 fun ps=>[.list (zIZ (nth (nth ps 0).A 0).L ⟨(nth (nth ps 0).A 1).I,(nth (nth ps 0).A 2).I⟩ (nth (nth ps 1).A 0).L.length).1],
 fun ps=>[.agg [.list [],.int .i64 (zIZ (nth (nth ps 0).A 0).L ⟨(nth (nth ps 0).A 1).I,(nth (nth ps 0).A 2).I⟩ (nth (nth ps 1).A 0).L.length).2.p,.int .i64 (zIZ (nth (nth ps 0).A 0).L ⟨(nth (nth ps 0).A 1).I,(nth (nth ps 0).A 2).I⟩ (nth (nth ps 1).A 0).L.length).2.q]]⟩
set_option maxHeartbeats 2000000 in
theorem zMf:zh Tryz.prog 131 yQ:=by
 refine zP [0,1,3,4,5,6,7,8] [.tmp 4] (zA (cs:=[]) zAq (zD (zB []))) mixed Tryz.func131 rfl (by decide) rfl (by decide) rfl ?_
 intro ps hT hpre W hW
 simp only[yQ,TyA,Ty,Tys] at hT hpre
 obtain⟨_,_,rfl,⟨_,rfl,_,_,rfl,⟨es,rfl,hes,tes⟩,_,_,rfl,⟨p,rfl,hp⟩,_,_,rfl,⟨q,rfl,hq⟩,rfl⟩,_,_,rfl,⟨_,rfl,_,_,rfl,⟨ns,rfl,hns,tns⟩,_,_,rfl,⟨ss,rfl,hss,tss⟩,_,_,rfl,⟨ws,rfl,hws,tws⟩,_,_,rfl,⟨ds,rfl,hds,tds⟩,rfl⟩,rfl⟩:=hT
 simp only[zE,zF,zBE,yp,zAA] at hpre
 have hc:=yd tes
 obtain⟨a,ha⟩:∃a,a=ye es ⟨p,q⟩ ns.length:=⟨_,rfl⟩
 have ka:=zg (s:=⟨p,q⟩) (n:=ns.length) hc hpre (by omega)
 rw[←ha] at ka
 have hE:zIZ es ⟨p,q⟩ ns.length=(gvD (ye es (tkD es a.1 13 a.2 []).2 12).1.toNat (tkD es a.1 13 a.2 []).1,(ye es (tkD es a.1 13 a.2 []).2 12).2):=by rw[ha];rfl
 refine hW.vc [] _ _ ?_
 simp[-List.getD_eq_getElem?_getD,yQ,zV,←ha]
 refine fun _=>⟨hpre.mono (by omega),?_⟩
 refine hW.loopS _ _ _ [.bs 0 [.list (.int .u8),.int .i64,.int .i64],.sl 5 .dp (.list (.agg [.int .i64,.int .i64,.int .i64,.int .i64,.str])),.sl 7 .dp (.int .i64)] (fun ys=>∃(i:Nat) (s:Src) (acc:List PV),ys=[.agg [.list es,.int .i64 s.p,.int .i64 s.q],.list acc,.int .i64 i]∧i≤13∧acc.length=i∧z9 s.p s.q (42 - 3*i)∧tkD es a.1 13 a.2 []=tkD es a.1 (13 - i) s acc) (fun ys=>13 - (nth ys 2).I.toNat) ?_ ?_
 ·simp[-List.getD_eq_getElem?_getD,yQ,zV]
  exact⟨0,a.2,[],⟨⟨rfl,rfl⟩,rfl,rfl⟩,by omega,rfl,ka.1.mono (by omega),rfl⟩
 ·rintro ys ⟨i,s,acc,rfl,g1,g2,g3,g4⟩
  have w1:IntKind.i64.wrap ((i:Int)+1)=i+1:=zC (by omega)
  refine hW.vc [] _ _ ?_
  simp[-List.getD_eq_getElem?_getD,yQ,zV,w1]
  refine⟨fun h=>⟨g3.mono (by omega),by omega,fun _=>⟨⟨i+1,(ye es s 3).2,_,⟨⟨rfl,rfl⟩,rfl,by omega⟩,by omega,by simp;omega,(zg hc g3 (by omega)).1.mono (by omega),?_⟩,by omega⟩⟩,fun h=>⟨g3.mono (by omega),?_⟩⟩
  ·rw[g4,show 13 - i=12 - i+1 by omega,tkD,show 13 - (i+1)=12 - i by omega]
  ·obtain rfl:i=13:=by omega
   have hE2:tkD es a.1 13 a.2 []=(acc,s):=g4
   rw[hE2] at hE
   simp only at hE
   obtain⟨b,hb⟩:∃b,b=ye es s 12:=⟨_,rfl⟩
   have kb:=zg (n:=12) hc g3 (by omega)
   rw[←hb] at kb hE ⊢
   have kb2:=kb.2.2 (by omega)
   refine hW.loopS _ _ _ [.sl 5 .dp (.list (.agg [.int .i64,.int .i64,.int .i64,.int .i64,.str])),.sl 8 .dp (.int .i64)] (fun ys=>∃(j:Nat) (l:List PV),ys=[.list l,.int .i64 j]∧j+l.length≤30∧gvD b.1.toNat acc=gvD j l) (fun ys=>(nth ys 1).I.toNat) ?_ ?_
   ·simp[-List.getD_eq_getElem?_getD,yQ,zV]
    exact⟨b.1.toNat,acc,⟨rfl,by omega⟩,by omega,rfl⟩
   ·rintro ys ⟨j,l,rfl,r1,r2⟩
    have w2:IntKind.i64.wrap ((j:Int) - 1)=j - 1:=zC (by omega)
    refine hW.vc [] _ _ ?_
    simp[-List.getD_eq_getElem?_getD,yQ,zV,w2]
    rw[hE]
    refine⟨fun h=>⟨by omega,fun _=>⟨⟨j - 1,_,⟨rfl,by omega⟩,by simp;omega,?_⟩,by omega⟩⟩,fun h=>?_⟩
    ·rw[r2,show j=(j - 1)+1 by omega,gvD,show j - 1+1 - 1=j - 1 by omega]
    ·rw[r2,h];exact⟨rfl,rfl,rfl⟩
end
section
variable [zS]
attribute [local irreducible] z9
def zX:zJ:=⟨[(.bs,.box [.list (.int .u8),.int .i64,.int .i64]),(.rd,.int .i64)],[.list (.agg [.int .i64,.int .i64,.int .i64,.int .i64,.str])],true,fun ps=>z9 (nth (nth ps 0).A 1).I (nth (nth ps 0).A 2).I 9999∧1≤(nth ps 1).I∧(nth ps 1).I≤5,
 fun ps=>[.list (zM0 (nth (nth ps 0).A 0).L ⟨(nth (nth ps 0).A 1).I,(nth (nth ps 0).A 2).I⟩ (nth ps 1).I.toNat).1],
 fun ps=>[.agg [.list [],.int .i64 (zM0 (nth (nth ps 0).A 0).L ⟨(nth (nth ps 0).A 1).I,(nth (nth ps 0).A 2).I⟩ (nth ps 1).I.toNat).2.p,.int .i64 (zM0 (nth (nth ps 0).A 0).L ⟨(nth (nth ps 0).A 1).I,(nth (nth ps 0).A 2).I⟩ (nth ps 1).I.toNat).2.q]]⟩
set_option maxHeartbeats 2000000 in
theorem zD9:zh Tryz.prog 81 zX:=by
 refine zP [0,1,4,5,6,7,8,9] [.tmp 4] (zA (cs:=[]) zFK (zA (cs:=[]) zEk (zA (cs:=[]) zQL (zA (cs:=[]) zMf (zA (cs:=[]) zGB (zA (cs:=[]) zQH (zA (cs:=[]) zAq (zA (cs:=[]) zF8 (zD (zB [])))))))))) mixed Tryz.func81 rfl (by decide) rfl (by decide) rfl ?_
 intro ps hT hpre W hW
 simp only[zX,TyA,Ty,Tys] at hT hpre
 obtain⟨_,_,rfl,⟨_,rfl,_,_,rfl,⟨es,rfl,hes,tes⟩,_,_,rfl,⟨p,rfl,hp⟩,_,_,rfl,⟨q,rfl,hq⟩,rfl⟩,_,_,rfl,⟨nodes,rfl,hnodes⟩,rfl⟩:=hT
 simp only[zE,zF,zBE,yp,zAA] at hpre
 obtain⟨h1,hn⟩:=hpre
 have hc:=yd tes
 have hz:=zFx es
 have wz:IntKind.i64.wrap (zC5 es 120+30)=zC5 es 120+30:=zC (by omega)
 obtain⟨a,ha⟩:∃a,a=ye es ⟨p,q⟩ (zC5 es 120+30):=⟨_,rfl⟩
 have ka:=zg (s:=⟨p,q⟩) (n:=zC5 es 120+30) hc h1 (by omega)
 rw[←ha] at ka
 have ka2:=ka.2.2 (by omega)
 have hD:zM0 es ⟨p,q⟩ nodes.toNat=zIm es nodes.toNat a.1.toNat a.2 []:=by rw[ha];rfl
 obtain⟨e1,e2⟩:=zFY hn
 refine hW.vc [(9,[5,6,8],tkN [0,1,3] (tkM [2] (alN [4,5,6,7,8,9] .done))),(13,[9],tkN [0,1,2,3,4] (alS 5 (tkN [6,7] (.alt 8 (alS 9 .done) (alS 9 (tkN [8] .done))))))] _ _ ?_
 simp[-List.reduceReplicate,-List.getD_eq_getElem?_getD,zX,zv,zV,zA1,yD,yQ,zA2,zK,zw,zH,zH,CL.pv,wz,←ha]
 refine⟨hn,h1.mono (by omega),?_⟩
 refine hW.loopS _ _ _ [.bs 0 [.list (.int .u8),.int .i64,.int .i64],.fx 5 [.list (.agg [.int .i64,.int .i64,.int .i64,.int .i64,.int .i64,.bool,.list (.agg [.int .i64,.str]),.int .i64,.int .i64,.int .i64,.list (.int .i64),.list (.int .i64),.list (.int .i64)]),.list (.agg [.str,.int .i64]),.list (.agg [.int .i64,.int .i64,.int .i64,.int .i64,.int .i64,.int .i64,.int .i64,.bool,.list (.agg [.int .i64,.str])]),.list .str],.sl 6 .dp (.list (.agg [.int .i64,.int .i64,.int .i64,.int .i64,.str])),.sl 7 .dp (.int .i64)] (fun ys=>∃(k:Nat) (s:Src) (out:List PV),ys=[.agg [.list es,.int .i64 s.p,.int .i64 s.q],(yM (yR nodes.toNat) out).1.pv,.list out,.int .i64 k]∧z9 s.p s.q (66*k)∧k≤150∧out.length≤240∧zIm es nodes.toNat a.1.toNat a.2 []=zIm es nodes.toNat k s out) (fun ys=>(nth ys 3).I.toNat) ?_ ?_
 ·simp[-List.reduceReplicate,-List.getD_eq_getElem?_getD,zX,zv,zV,zA1,yD,yQ,zA2,zK,zw,zH,CL.pv]
  exact⟨a.1.toNat,a.2,[],⟨⟨rfl,rfl⟩,⟨e1,e2,rfl,rfl⟩,rfl,by omega⟩,ka.1.mono (by omega),by omega,by simp,rfl⟩
 ·rintro ys ⟨k,s,out,rfl,g1,g2,g3,g4⟩
  have w1:IntKind.i64.wrap ((k:Int) - 1)=k - 1:=zC (by omega)
  have hI:=(zEN hn out).1
  obtain⟨c,hcl⟩:∃c,c=(yM (yR nodes.toNat) out).1:=⟨_,rfl⟩
  rw[←hcl] at hI ⊢
  obtain⟨ns,ss,ws,ds⟩:=c
  simp only[CL.pv]
  obtain⟨x,hx⟩:∃x,x=ye es s 12:=⟨_,rfl⟩
  obtain⟨E,hE⟩:∃E,E=zIZ es x.2 ns.length:=⟨_,rfl⟩
  refine hW.vc [] _ _ ?_
  simp[-List.reduceReplicate,-List.getD_eq_getElem?_getD,zX,zv,zV,zA1,yD,yQ,zA2,zK,zw,zH,CL.pv,CA.pv,zBd,w1,←hx,←hE]
  refine fun _=>⟨fun hk ho=>⟨g1.mono (by omega),fun _=>⟨fun h=>⟨?_,?_⟩,fun h h'=>?_⟩⟩,fun h=>?_⟩
  ·have:=(zg (n:=12) hc g1 (by omega)).1
   rw[←hx] at this
   exact this.mono (by omega)
  ·have hE1:zGo es s ⟨ns,ss,ws,ds⟩ out=(E.1,E.2):=by
    rw[zGo,←hx,if_pos (h.imp id fun q=>by rw[q];rfl),←hE]
   obtain⟨P,hP⟩:∃P,P=zCl es E.2 [PV.str [111,110,101],PV.str [116,119,111],PV.str [116,104,114,101,101],PV.str [102,111,117,114]]:=⟨_,rfl⟩
   obtain⟨A,hA⟩:∃A,A=zG4 es P.2 ns ws.length P.1:=⟨_,rfl⟩
   obtain⟨L,hL⟩:∃L,L=E.1++[A.1.pv]:=⟨_,rfl⟩
   have hRD:zJI es s ⟨ns,ss,ws,ds⟩ out=(L,A.2):=by
    rw[hL,hA,hP,zJI,hE1];rfl
   have hok:=zFX (c:=⟨ns,ss,ws,ds⟩) (out:=out) hc g1 (by omega)
   rw[hRD] at hok
   have hok2:L.length≤25:=hok.2
   have hE2:=zFW (c:=⟨ns,ss,ws,ds⟩) (out:=out) hc g1 (by omega)
   rw[hE1] at hE2
   have hE3:E.1.length≤24:=hE2.2
   have kP:=zD3 (l:=[PV.str [111,110,101],PV.str [116,119,111],PV.str [116,104,114,101,101],PV.str [102,111,117,114]]) hc hE2.1 (by omega)
   rw[←hP] at kP
   have hac:∀e∈L,acE e:=by
    intro e he
    rw[hL] at he
    rcases List.mem_append.1 he with q | q
    ·have:=zHy (es:=es) (s:=s) (c:=⟨ns,ss,ws,ds⟩) (out:=out) e
     rw[hE1] at this
     exact this q
    ·rw[List.mem_singleton.1 q];exact⟨A.1,rfl⟩
   have n5:ns.length≤5:=hI.n5
   refine hW.vc [(9,[5,6,8],tkN [0,1,3] (tkM [2] (alN [4,5,6,7,8,9] .done))),(13,[9],tkN [0,1,2,3,4] (alS 5 (tkN [6,7] (.alt 8 (alS 9 .done) (alS 9 (tkN [8] .done))))))] _ _ ?_
   simp[-List.reduceReplicate,-List.getD_eq_getElem?_getD,zX,zv,zV,zA1,yD,yQ,zA2,zK,zw,zH,CL.pv,CA.pv,zBd,←hP,←hA]
   refine⟨by decide +kernel,rfl,hE2.1.mono (by omega),⟨kP.mono (by omega),by omega⟩,by omega,?_⟩
   try refine fun _=>?_
   refine hW.loopS _ _ _ [.fx 5 [.list (.agg [.int .i64,.int .i64,.int .i64,.int .i64,.int .i64,.bool,.list (.agg [.int .i64,.str]),.int .i64,.int .i64,.int .i64,.list (.int .i64),.list (.int .i64),.list (.int .i64)]),.list (.agg [.str,.int .i64]),.list (.agg [.int .i64,.int .i64,.int .i64,.int .i64,.int .i64,.int .i64,.int .i64,.bool,.list (.agg [.int .i64,.str])]),.list .str],.sl 6 .dp (.list (.agg [.int .i64,.int .i64,.int .i64,.int .i64,.str])),.sl 8 .dp (.list (.agg [.int .i64,.int .i64,.int .i64,.int .i64,.str])),.sl 9 .dp (.int .i64)] (fun ys=>∃j:Nat,ys=[(yM (yR nodes.toNat) (out++L.take j)).1.pv,.list (out++L.take j),.list L,.int .i64 j]∧j≤L.length) (fun ys=>L.length - (nth ys 3).I.toNat) ?_ ?_
   ·simp[-List.reduceReplicate,-List.getD_eq_getElem?_getD,zX,zv,zV,zA1,yD,yQ,zA2,zK,zw,zH,CL.pv]
    refine⟨0,⟨?_,?_,?_,rfl⟩,by omega⟩
    ·rw[List.take_zero,List.append_nil,←hcl];exact⟨rfl,rfl,rfl,rfl⟩
    ·simp
    ·rw[hL];rfl
   ·rintro ys ⟨j,rfl,r1⟩
    have hI2:=(zEN hn (out++L.take j)).1
    obtain⟨c2,hc2⟩:∃c2,c2=(yM (yR nodes.toNat) (out++L.take j)).1:=⟨_,rfl⟩
    rw[←hc2] at hI2 ⊢
    obtain⟨ns2,ss2,ws2,ds2⟩:=c2
    simp only[CL.pv]
    have w2:IntKind.i64.wrap ((j:Int)+1)=j+1:=zC (by omega)
    have hl2:(out++L.take j).length≤240:=by
     rw[List.length_append,List.length_take];omega
    obtain⟨O,hO⟩:∃O,O=out++L.take j:=⟨_,rfl⟩
    rw[←hO] at hl2 hc2 ⊢
    refine hW.vc [(9,[5,6,8],tkN [0,1,3] (tkM [2] (alN [4,5,6,7,8,9] .done))),(13,[9],tkN [0,1,2,3,4] (alS 5 (tkN [6,7] (.alt 8 (alS 9 .done) (alS 9 (tkN [8] .done))))))] _ _ ?_
    simp[-List.reduceReplicate,-List.getD_eq_getElem?_getD,zX,zv,zV,zA1,yD,yQ,zA2,zK,zw,zH,CL.pv,zBd,zGW,w1,w2]
    refine fun _=>⟨fun h=>⟨by decide +kernel,h,?_⟩,fun h=>?_⟩
    ·clear hW
     intros
     refine⟨hI2,h,?_⟩
     intros
     refine⟨by omega,fun _=>⟨⟨j+1,⟨?_,?_,by omega⟩,by omega⟩,by omega⟩⟩
     ·have e:(yM (yR nodes.toNat) (out++L.take (j+1))).1=(zAS ⟨ns2,ss2,ws2,ds2⟩ (zDb (nth L j).A)).1:=by rw[zd h,←List.append_assoc,←hO,zFz,←hc2]
      rw[e];exact⟨rfl,rfl,rfl,rfl⟩
     ·obtain⟨b,hb⟩:=hac _ (zb h)
      rw[zd h,←List.append_assoc,←hO,hb];rfl
    ·have eO:O=out++L:=by rw[hO,List.take_of_length_le h]
     refine⟨⟨k - 1,A.2,O,⟨⟨rfl,rfl⟩,?_,rfl,by omega⟩,hok.1.mono (by omega),by omega,hl2,?_⟩,by omega⟩
     ·rw[←hc2];exact⟨rfl,rfl,rfl,rfl⟩
     ·obtain⟨m,rfl⟩:∃m,k=m+1:=⟨k - 1,by omega⟩
      rw[g4,zIm,if_pos (by omega),←hcl,hRD,eO];rfl
  ·have hE1:zGo es s ⟨ns,ss,ws,ds⟩ out=([],x.2):=by
    rw[zGo,←hx,if_neg (fun q=>q.elim h fun z=>h' (List.length_eq_zero_iff.1 z))]
   obtain⟨P,hP⟩:∃P,P=zCl es x.2 [PV.str [111,110,101],PV.str [116,119,111],PV.str [116,104,114,101,101],PV.str [102,111,117,114]]:=⟨_,rfl⟩
   obtain⟨A,hA⟩:∃A,A=zG4 es P.2 ns ws.length P.1:=⟨_,rfl⟩
   obtain⟨L,hL⟩:∃L,L=[]++[A.1.pv]:=⟨_,rfl⟩
   have hRD:zJI es s ⟨ns,ss,ws,ds⟩ out=(L,A.2):=by
    rw[hL,hA,hP,zJI,hE1];rfl
   have hok:=zFX (c:=⟨ns,ss,ws,ds⟩) (out:=out) hc g1 (by omega)
   rw[hRD] at hok
   have hok2:L.length≤25:=hok.2
   have hE2:=zFW (c:=⟨ns,ss,ws,ds⟩) (out:=out) hc g1 (by omega)
   rw[hE1] at hE2
   have kP:=zD3 (l:=[PV.str [111,110,101],PV.str [116,119,111],PV.str [116,104,114,101,101],PV.str [102,111,117,114]]) hc hE2.1 (by omega)
   rw[←hP] at kP
   have hac:∀e∈L,acE e:=by
    intro e he
    rw[hL] at he
    rcases List.mem_append.1 he with q | q
    ·have:=zHy (es:=es) (s:=s) (c:=⟨ns,ss,ws,ds⟩) (out:=out) e
     rw[hE1] at this
     exact this q
    ·rw[List.mem_singleton.1 q];exact⟨A.1,rfl⟩
   have n5:ns.length≤5:=hI.n5
   refine hW.vc [(9,[5,6,8],tkN [0,1,3] (tkM [2] (alN [4,5,6,7,8,9] .done))),(13,[9],tkN [0,1,2,3,4] (alS 5 (tkN [6,7] (.alt 8 (alS 9 .done) (alS 9 (tkN [8] .done))))))] _ _ ?_
   simp[-List.reduceReplicate,-List.getD_eq_getElem?_getD,zX,zv,zV,zA1,yD,yQ,zA2,zK,zw,zH,CL.pv,CA.pv,zBd,←hP,←hA]
   refine⟨by decide +kernel,rfl,hE2.1.mono (by omega),⟨kP.mono (by omega),by omega⟩,?_⟩
   try refine fun _=>?_
   refine hW.loopS _ _ _ [.fx 5 [.list (.agg [.int .i64,.int .i64,.int .i64,.int .i64,.int .i64,.bool,.list (.agg [.int .i64,.str]),.int .i64,.int .i64,.int .i64,.list (.int .i64),.list (.int .i64),.list (.int .i64)]),.list (.agg [.str,.int .i64]),.list (.agg [.int .i64,.int .i64,.int .i64,.int .i64,.int .i64,.int .i64,.int .i64,.bool,.list (.agg [.int .i64,.str])]),.list .str],.sl 6 .dp (.list (.agg [.int .i64,.int .i64,.int .i64,.int .i64,.str])),.sl 8 .dp (.list (.agg [.int .i64,.int .i64,.int .i64,.int .i64,.str])),.sl 9 .dp (.int .i64)] (fun ys=>∃j:Nat,ys=[(yM (yR nodes.toNat) (out++L.take j)).1.pv,.list (out++L.take j),.list L,.int .i64 j]∧j≤L.length) (fun ys=>L.length - (nth ys 3).I.toNat) ?_ ?_
   ·simp[-List.reduceReplicate,-List.getD_eq_getElem?_getD,zX,zv,zV,zA1,yD,yQ,zA2,zK,zw,zH,CL.pv]
    refine⟨0,⟨?_,?_,?_,rfl⟩,by omega⟩
    ·rw[List.take_zero,List.append_nil,←hcl];exact⟨rfl,rfl,rfl,rfl⟩
    ·simp
    ·rw[hL];rfl
   ·rintro ys ⟨j,rfl,r1⟩
    have hI2:=(zEN hn (out++L.take j)).1
    obtain⟨c2,hc2⟩:∃c2,c2=(yM (yR nodes.toNat) (out++L.take j)).1:=⟨_,rfl⟩
    rw[←hc2] at hI2 ⊢
    obtain⟨ns2,ss2,ws2,ds2⟩:=c2
    simp only[CL.pv]
    have w2:IntKind.i64.wrap ((j:Int)+1)=j+1:=zC (by omega)
    have hl2:(out++L.take j).length≤240:=by
     rw[List.length_append,List.length_take];omega
    obtain⟨O,hO⟩:∃O,O=out++L.take j:=⟨_,rfl⟩
    rw[←hO] at hl2 hc2 ⊢
    refine hW.vc [(9,[5,6,8],tkN [0,1,3] (tkM [2] (alN [4,5,6,7,8,9] .done))),(13,[9],tkN [0,1,2,3,4] (alS 5 (tkN [6,7] (.alt 8 (alS 9 .done) (alS 9 (tkN [8] .done))))))] _ _ ?_
    simp[-List.reduceReplicate,-List.getD_eq_getElem?_getD,zX,zv,zV,zA1,yD,yQ,zA2,zK,zw,zH,CL.pv,zBd,zGW,w1,w2]
    refine fun _=>⟨fun h=>⟨by decide +kernel,h,?_⟩,fun h=>?_⟩
    ·clear hW
     intros
     refine⟨hI2,h,?_⟩
     intros
     refine⟨by omega,fun _=>⟨⟨j+1,⟨?_,?_,by omega⟩,by omega⟩,by omega⟩⟩
     ·have e:(yM (yR nodes.toNat) (out++L.take (j+1))).1=(zAS ⟨ns2,ss2,ws2,ds2⟩ (zDb (nth L j).A)).1:=by rw[zd h,←List.append_assoc,←hO,zFz,←hc2]
      rw[e];exact⟨rfl,rfl,rfl,rfl⟩
     ·obtain⟨b,hb⟩:=hac _ (zb h)
      rw[zd h,←List.append_assoc,←hO,hb];rfl
    ·have eO:O=out++L:=by rw[hO,List.take_of_length_le h]
     refine⟨⟨k - 1,A.2,O,⟨⟨rfl,rfl⟩,?_,rfl,by omega⟩,hok.1.mono (by omega),by omega,hl2,?_⟩,by omega⟩
     ·rw[←hc2];exact⟨rfl,rfl,rfl,rfl⟩
     ·obtain⟨m,rfl⟩:∃m,k=m+1:=⟨k - 1,by omega⟩
      rw[g4,zIm,if_pos (by omega),←hcl,hRD,eO];rfl
  ·have hX:zIm es nodes.toNat k s out=(out,s):=by
    cases k with
    | zero=>rfl
    | succ m=>rw[zIm,if_neg (by have:=h (by omega);omega)]
   rw[hD,g4,hX];exact⟨rfl,rfl,rfl⟩
def zx:zJ:=⟨[(.rd,.list (.int .u8)),(.rd,.int .i64)],[.list (.agg [.int .i64,.int .i64,.int .i64,.int .i64,.str])],true,fun ps=>1≤(nth ps 1).I∧(nth ps 1).I≤5,fun ps=>[.list (zM0 (nth ps 0).L ⟨0,zCK (nth ps 0).L⟩ (nth ps 1).I.toNat).1],fun _=>[]⟩
theorem zC9:zh Tryz.prog 31 zx:=by
 refine zIU [0,1,4] [.tmp 4] _ sG (zA (cs:=[]) zD9 (zD (zB []))) mixed Tryz.func31 rfl (by decide) rfl (by decide) rfl ?_
 intro ps hT hpre W hW hB
 simp only[zx,TyA,Ty,Tys] at hT hpre
 obtain⟨_,_,rfl,⟨es,rfl,hes,tes⟩,_,_,rfl,⟨nodes,rfl,hnodes⟩,rfl⟩:=hT
 simp only[zE,zF,yp] at hpre
 refine hW.vc [] _ _ ?_
 simp[-List.getD_eq_getElem?_getD,zx,zX]
 refine hB.src _ _ _ _ _ ?_
 simp[zUR,-List.getD_eq_getElem?_getD,zx,zX]
 refine hW.vc [] _ _ ?_
 simp[-List.getD_eq_getElem?_getD,zx,zX]
 have h:=zCY (es.length:Int) 1000 (by omega) (by omega)
 refine⟨?_,hpre⟩
 unfold z9
 exact⟨by omega,by omega,h.1,Int.lt_trans h.2 (by omega)⟩
end
section
variable [zS]
def atN(es:List PV)(i n:Int):Int:=
 if n≤1 then 0 else if es.length=0 then (i*7).tmod n else ((nth es (i.tmod es.length).toNat).I*31+(nth es ((i+1).tmod es.length).toNat).I+i.tdiv es.length).tmod n
theorem zT2{es:List PV}{i n:Int}(hc:zAa es)(hi:0≤i)(hn:1≤n):0≤atN es i n∧atN es i n < n:=by
 unfold atN
 split
 ·omega
 ·split
  ·exact zCY _ _ (by omega) (by omega)
  ·have h1:=zCY i es.length hi (by omega)
   have h2:=zCY (i+1) es.length (by omega) (by omega)
   have h3:=hc _ (zb (show(i.tmod es.length).toNat < es.length by omega))
   have h4:=hc _ (zb (show((i+1).tmod es.length).toNat < es.length by omega))
   have h5:=Int.tdiv_nonneg hi (show(0:Int)≤es.length by omega)
   exact zCY _ _ (by omega) (by omega)
def zUD:zJ:=⟨[(.rd,.list (.int .u8)),(.rd,.int .i64),(.rd,.int .i64)],[.int .i64],true,fun ps=>0≤(nth ps 1).I∧(nth ps 1).I≤1000000,fun ps=>[.int .i64 (atN (nth ps 0).L (nth ps 1).I (nth ps 2).I)],fun _=>[]⟩
theorem ze6:zh Tryz.prog 32 zUD:=by
 refine zP [0,1,2,6] [.tmp 6] (zD (zB [])) mixed Tryz.func32 rfl (by decide) rfl (by decide) rfl ?_
 intro ps hT hpre W hW
 simp only[zUD,TyA,Ty,Tys] at hT hpre
 obtain⟨_,_,rfl,⟨es,rfl,hes,tes⟩,_,_,rfl,⟨i,rfl,hi⟩,_,_,rfl,⟨n,rfl,hn⟩,rfl⟩:=hT
 simp only[zE,zF,yp] at hpre
 refine hW.vc [(5,[],tkN [0,1,2,3,4,5,6,7,8,9,10,11,12,13,14,15,16,17,18,19,20,21,22,23,24,25] (alS 26 .done))] _ _ ?_
 simp[-List.getD_eq_getElem?_getD,zUD]
 have hc:=yd ‹_›
 rw[zC (n:=i*7) (by omega),zC (n:=i+1) (by omega)]
 refine⟨fun h=>by simp[atN,h],fun h _=>⟨fun h2=>⟨by omega,by subst h2;simp[atN,show ¬n≤1 by omega]⟩,fun h2=>?_⟩⟩
 have hl:0 < es.length:=List.length_pos_iff.2 h2
 have h1:=zCY i es.length hpre.1 (by omega)
 have h3:=zCY (i+1) es.length (by omega) (by omega)
 have h4:=hc _ (zb (show(i.tmod es.length).toNat < es.length by omega))
 have h5:=hc _ (zb (show((i+1).tmod es.length).toNat < es.length by omega))
 have h6:=Int.tdiv_nonneg hpre.1 (show(0:Int)≤es.length by omega)
 have h7:=Int.tdiv_le_self (es.length:Int) hpre.1
 refine⟨by decide +kernel,fun _=>⟨h2,⟨h1.1,h1.2⟩,by omega,fun _ _=>⟨h2,⟨h3.1,h3.2⟩,by omega,fun _ _=>⟨h2,by omega,?_⟩⟩⟩⟩
 rw[zC (n:=(nth es (i.tmod es.length).toNat).I) (by omega),zC (n:=(nth es (i.tmod es.length).toNat).I*31) (by omega),zC (n:=(nth es ((i+1).tmod es.length).toNat).I) (by omega),zC (n:=i.tdiv es.length) (by omega),
  zC (n:=(nth es (i.tmod es.length).toNat).I*31+(nth es ((i+1).tmod es.length).toNat).I) (by omega),zC (n:=(nth es (i.tmod es.length).toNat).I*31+(nth es ((i+1).tmod es.length).toNat).I+i.tdiv es.length) (by omega)]
 simp[atN,show ¬n≤1 by omega,h2]
end
section
variable [zS]
theorem zOa{nodes:Int}{acts:List PV}(hn:1≤nodes∧nodes≤5)(hl:acts.length≤240):rnR nodes acts=((yM (yR nodes.toNat) acts).1,(yM (yR nodes.toNat) acts).2,0):=by
 rw[rnR,if_neg (by omega),zk.2 hn,cond_true,if_neg (by omega)]
theorem zMJ(es:List PV):z9 0 (zCK es) 9999:=by
 have h:=zCY (es.length:Int) 1000 (by omega) (by omega)
 exact⟨by omega,by omega,h.1,Int.lt_trans h.2 (by omega)⟩
theorem zS0{n:Nat}(h1:1≤n)(h5:n≤5)(acts:List PV):RX (yM (yR n) acts).1∧ClI (yM (yR n) acts).1∧zCw (yM (yR n) acts).1.ns (yM (yR n) acts).1.ss (yM (yR n) acts).1.ws (yM (yR n) acts).1.ds=true∧(yM (yR n) acts).1.ns.length=n:=by
 have hX:RX (yM (yR n) acts).1:=RX.run (RX.new h1 h5)
 obtain⟨a,b⟩:=zK4 h1 h5
 have hl:(yR n).ns.length=n:=yL n n
 exact⟨hX,hX.I,hX.I.ok,(zKj (acts:=acts) a b).2.2.trans hl⟩
theorem zWT{c:CL}(h:zCw c.ns c.ss c.ws c.ds=true):ldR c=(zFc c.ds,0):=by rw[ldR,h];rfl
theorem zYx{c:CL}(h:zCw c.ns c.ss c.ws c.ds=true)(hX:RX c):agR c=(true,0):=by rw[agR,h,cond_true,hX.agree]
def zBq:zJ:=⟨[(.rd,.list (.int .u8)),(.rd,.list (.int .u8))],[.bool],true,fun _=>True,fun _=>[.bool true],fun _=>[]⟩
def zOQ:zJ:=zBq
set_option maxHeartbeats 2000000 in
theorem zdq:zh Tryz.prog 9 zOQ:=by
 refine zP [0,1,4,5,6,7,8,9,10,11,13,14,15,16,17] [.tmp 4] (zA (cs:=[]) zLD (zA (cs:=[]) zD7 (zA (cs:=[]) zKR (zA (cs:=[]) zLe (zA (cs:=[]) zQ1 (zA (cs:=[]) zJQ (zA (cs:=[]) zJR (zA (cs:=[]) zF5 (zA (cs:=[]) zD8 (zA (cs:=[]) ze6 (zA (cs:=[]) zC9 (zD (zB []))))))))))))) mixed Tryz.func9 rfl (by decide) rfl (by decide) rfl ?_
 intro ps hT hpre W hW
 simp only[zOQ,TyA,Ty,Tys] at hT hpre
 simp only[zBq,TyA,Ty,Tys] at hT
 obtain⟨_,_,rfl,⟨es,rfl,hes,tes⟩,_,_,rfl,⟨es2,rfl,hes2,tes2⟩,rfl⟩:=hT
 have hc:=yd tes
 have hc2:=yd tes2
 obtain⟨j,hj⟩:∃j,j=atN es2 0 4:=⟨_,rfl⟩
 have hj2:=zT2 (i:=0) (n:=4) hc2 (by omega) (by omega)
 rw[←hj] at hj2
 have hx:∀j:Int,(nth [PV.int .i64 3,PV.int .i64 3,PV.int .i64 5,PV.int .i64 1] j.toNat).I=dNs j:=fun _=>rfl
 obtain⟨n,hn⟩:∃n,n=dNs j:=⟨_,rfl⟩
 have hn2:=zYf hj2.1 hj2.2
 rw[←hn] at hn2
 obtain⟨A,hA⟩:∃A,A=(zM0 es ⟨0,zCK es⟩ n.toNat).1:=⟨_,rfl⟩
 have hl:A.length≤240:=by rw[hA];exact zKd hc (zMJ es) (by omega)
 obtain⟨R,hR⟩:∃R,R=rnR n A:=⟨_,rfl⟩
 have e1:R=((yM (yR n.toNat) A).1,(yM (yR n.toNat) A).2,0):=by rw[hR,zOa hn2 hl]
 refine hW.vc [] _ _ ?_
 simp[-List.getD_eq_getElem?_getD,zOQ,zx,zUD,za,zAJ,zA5,zAu,zHB,zCk,zAk,yF,zDT,zBq,zAR,yA,zM,zI,zBq,za,zAu,yA,zI,zAR,zM,CL.pv,zBd,←hj,hx,←hn,←hA,←hR]
 obtain⟨X1,I1,u1,n1⟩:=zS0 (n:=n.toNat) (by omega) (by omega) A
 obtain⟨c,h1⟩:∃c,c=(yM (yR n.toNat) A).1:=⟨_,rfl⟩
 rw[←h1] at X1 I1 u1 n1 e1
 rw[e1]
 refine fun _ _ _ _=>⟨by decide +kernel,by omega,by omega,fun _=>⟨hn2,⟨⟨⟨⟨⟨⟨rfl,zGQ _⟩,zE1 _⟩,?_⟩,?_⟩,?_⟩,?_⟩,u1⟩⟩
 ·show(agR c).2=0
  rw[zYx u1 X1]
 ·show(agR c).1=true
  rw[zYx u1 X1]
 ·show(ldR c).2=0
  rw[zWT u1]
 ·exact y9 fun _=>by simp
end
end Go.Proofs.YthogljppoiekaaaGreat
