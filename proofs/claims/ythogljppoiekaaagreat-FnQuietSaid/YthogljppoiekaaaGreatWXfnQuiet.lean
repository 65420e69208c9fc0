/-
  What FnQuiet alone needs: contracts of functions and plain laws.
  Conditions: none.
-/
import Derived.Test.YthogljppoiekaaaGreatW45
import Derived.Test.YthogljppoiekaaaGreatW46
import Derived.Test.YthogljppoiekaaaGreatW48
set_option linter.unusedVariables false
set_option linter.unusedSimpArgs false
set_option linter.unusedSectionVars false
set_option maxRecDepth 100000
namespace Go.Proofs.YthogljppoiekaaaGreat
section
variable [zS]
theorem zKH{b:List UInt8}(sure:Int):(zEO b sure).2.2=(yP b).2.2:=by
 unfold yP zEO
 split
 ·rfl
 ·split<;>rfl
theorem zGF:zGk [] ST.one:=⟨by simp[zBw,zCB],by simp[zBw,zCB,zBK]⟩
end
section
variable [zS]
theorem zK5(n:ND):z8 (n.pv).A=n:=rfl
theorem zJ8{n:ND}(h:NdF n):0≤zCI n.log n.log.length∧zCI n.log n.log.length≤n.term:=by
 have t0:=h.t0
 unfold zCI
 split
 ·omega
 ·have:=zI5 h.en (n.log.length - 1) (by omega)
  have e:((n.log.length:Int) - 1).toNat=n.log.length - 1:=by omega
  rw[e];omega
theorem zDL{n:ND}(h:NdF n)(ht:1≤n.term):∀k:Nat,(k:Int)≤n.nodes→∀e∈zAl n k,mgV n.nodes e
 | 0,_,e,hm=>by simp[zAl] at hm
 | k+1,hk,e,hm=>by
  rw[zAl] at hm
  rcases List.mem_append.1 hm with hm | hm
  ·exact zDL h ht k (by omega) e hm
  ·split at hm
   ·simp at hm
   ·rename_i hne
    rw[List.mem_singleton.1 hm]
    have i0:=h.i0;have i1:=h.i1;have n5:=h.n5;have t1:=h.t1;have l6:=h.l6
    have:=zJ8 h
    exact zOg (m:=⟨1,n.id,k,n.term,n.log.length,zCI n.log n.log.length,0,false,[]⟩) (by simp only;omega) (by simp only;omega) (by simp only;omega) n5 (by simp only;omega) (by simp only;omega) (by simp only;omega) (by simp only;omega) this (by rw[if_neg (by simp)]) (by simp)
theorem zM4{n:ND}{d:Int}(h:NdF n)(hd:0≤d)(hu:n.up=true)(hr:n.role≠0→1≤n.term)(he:∀e∈n.log,isE e):(∀e∈(zBD n d).1.log,isE e)∧∀e∈(zBD n d).2,mgV n.nodes e:=by
 have t0:=h.t0;have t1:=h.t1;have n1:=h.n1
 unfold zBD
 split
 ·rename_i h2
  split
  ·exact⟨he,by simp⟩
  ·exact⟨he,zDO (n:={ n with ela:=0 }) h.ela0 (hr (by omega)) he _ (by show(n.nodes.toNat:Int)≤n.nodes;omega)⟩
 ·split
  ·exact⟨he,by simp⟩
  ·rename_i h1 h2
   have h3:n.term≠1000:=fun e=>h2 (.inr e)
   have hS:=zJH (d:=d) h (by omega) hd hu
   unfold zEH
   split
   ·have hL:=zLz hS (by show 1≤n.term+1;omega) hu
    have hE:=zP6 (n:=zBf n d) he
    exact⟨hE,zDO hL (by show 1≤n.term+1;omega) hE _ (by show(n.nodes.toNat:Int)≤n.nodes;omega)⟩
   ·exact⟨he,zDL hS (by show 1≤n.term+1;omega) _ (by show(n.nodes.toNat:Int)≤n.nodes;omega)⟩
end
section
variable [zS]
def zr:zJ:=zY
theorem zEg:zh Tryz.prog 113 zr:=by
 refine zP [0,1,2] [.tmp 2] (zA (cs:=[]) zJl (zA (cs:=[]) zEj (zD (zB [])))) mixed Tryz.func113 rfl (by decide) rfl (by decide) rfl ?_
 intro ps hT hpre W hW
 simp only[zr,TyA,Ty,Tys] at hT hpre
 simp only[zY,TyA,Ty,Tys] at hT hpre
 obtain⟨_,_,rfl,⟨_,rfl,_,_,rfl,⟨m0,rfl,hm0⟩,_,_,rfl,⟨m1,rfl,hm1⟩,_,_,rfl,⟨m2,rfl,hm2⟩,_,_,rfl,⟨m3,rfl,hm3⟩,_,_,rfl,⟨m4,rfl,hm4⟩,_,_,rfl,⟨m5,rfl,hm5⟩,_,_,rfl,⟨m6,rfl,hm6⟩,_,_,rfl,⟨m7,rfl⟩,_,_,rfl,⟨m8,rfl,hm8,tm8⟩,rfl⟩,rfl⟩:=hT
 refine hW.vc [(5,[],tkN [0,1,2,3,4,5,6,7,8,9,10,11,12] (alS 13 (tkN [14,15,16,17,18,19,20,21,22,23,24,25,26,27,28,29,30,31,32,33,34,35,36,37,38,39,40] (alS 41 .done))))] _ _ ?_
 simp[-List.getD_eq_getElem?_getD,zr,zCC,zDC,zY,zT,zAg,zT,zAg,zY,yk]
 refine⟨fun h=>?_,fun b1 b2 b3 b4 b5 b6 b7 b8=>⟨fun h _=>?_,fun h=>⟨by decide +kernel,fun _ _=>⟨fun a b c=>⟨⟨⟨a,b⟩,c⟩,List.length_pos_iff.2 c⟩,fun _=>⟨fun a b=>⟨⟨a,b⟩,fun c=>⟨⟨a,b⟩,c⟩⟩,fun a b c=>⟨⟨⟨a,b⟩,c⟩,fun d=>⟨⟨⟨a,b⟩,c⟩,d⟩⟩,?_⟩⟩⟩⟩⟩
 ·have:zKn ⟨m0,m1,m2,m3,m4,m5,m6,m7,m8⟩=false:=by
   rcases h with ((((((h | h) | h) | h) | h) | h) | h) | h<;>simp[zKn,h]
  simp[mgB,this]
 ·have h1:zKn ⟨m0,m1,m2,m3,m4,m5,m6,m7,m8⟩=true:=by simp[zKn,b1,b2,b3,b4,b5,b6,b7,b8]
  have hk:(m0 == 3)=false:=by simp[h]
  simp only[mgB,h1,hk,cond_false,Bool.true_and]
  rw[Bool.eq_iff_iff]
  simp
 ·have h1:zKn ⟨m0,m1,m2,m3,m4,m5,m6,m7,m8⟩=true:=by simp[zKn,b1,b2,b3,b4,b5,b6,b7,b8]
  have hk:(m0 == 3)=true:=by simp[h]
  rw[zC (n:=60 - m4) (by simp[inB] at b6;omega)]
  have hq:stB m3 0 m8=zKl m3 m8:=by
   have q1:inB m3 0 1000=true:=by simp[inB] at b5 ⊢;omega
   have q2:inB 0 (-1) 4=true:=by decide
   simp[stB,q1,q2]
  simp only[mgB,h1,hk,cond_true,Bool.true_and,zY5,leB,ltB,hq]
  rw[Bool.eq_iff_iff]
  simp
  exact fun _ _=>And.comm
end
section
variable [zS]
theorem zKV(es:List PV):eqL (fun x y=>x.S == y.S) es es=true:=y9 fun _=>by simp
end
section
variable [zS]
def zAw:zJ:=⟨[(.rd,.list .str)],[.list .str],true,fun ps=>(nth ps 0).L.length≤1048576,fun ps=>[.list (nth ps 0).L],fun _=>[]⟩
theorem zNV:zh Tryz.prog 125 zAw:=by
 refine zP [0,2] [.tmp 2] (zD (zB [])) mixed Tryz.func125 rfl (by decide) rfl (by decide) rfl ?_
 intro ps hT hpre W hW
 simp only[zAw,TyA,Ty,Tys] at hT hpre
 obtain⟨_,_,rfl,⟨es,rfl,hes,tes⟩,rfl⟩:=hT
 simp only[zE,zAA] at hpre
 refine hW.vc [] _ _ ?_
 simp[-List.getD_eq_getElem?_getD,zAw]
 omega
end
section
variable [zS]
def zCA(nodes:Int):Nat→List PV
 | 0=>[]
 | k+1=>zCA nodes k++[(zCr k nodes 0 (-1) []).pv]
theorem yL(nodes:Int):∀k,(zCA nodes k).length=k
 | 0=>rfl
 | k+1=>by simp[zCA,yL nodes k]
def st0:PV:=.agg [.str [],.int .i64 0]
def zH:zJ:=⟨[(.rd,.int .i64)],[.agg [.list (.agg [.int .i64,.int .i64,.int .i64,.int .i64,.int .i64,.bool,.list (.agg [.int .i64,.str]),.int .i64,.int .i64,.int .i64,.list (.int .i64),.list (.int .i64),.list (.int .i64)]),.list (.agg [.str,.int .i64]),.list (.agg [.int .i64,.int .i64,.int .i64,.int .i64,.int .i64,.int .i64,.int .i64,.bool,.list (.agg [.int .i64,.str])]),.list .str]],true,fun ps=>1≤(nth ps 0).I∧(nth ps 0).I≤5,fun ps=>[.agg [.list (zCA (nth ps 0).I (nth ps 0).I.toNat),.list (List.replicate (nth ps 0).I.toNat st0),.list [],.list []]],fun _=>[]⟩
theorem zEi:zh Tryz.prog 50 zH:=by
 refine zP [0,2,3,4,8,9] [.cell 2 29] (zA (cs:=[]) zLC (zD (zB []))) mixed Tryz.func50 rfl (by decide) rfl (by decide) rfl ?_
 intro ps hT hpre W hW
 simp only[zH,TyA,Ty,Tys] at hT hpre
 obtain⟨_,_,rfl,⟨nodes,rfl,hnodes⟩,rfl⟩:=hT
 simp only[zE,zF,yp] at hpre
 refine hW.vc [(5,[6,8],tkN [0,1,2,3] (alN [4,5,6] (tkN [7] (alS 8 .done))))] _ _ ?_
 simp[-List.reduceReplicate,-List.getD_eq_getElem?_getD,zH,zCe]
 refine⟨⟨by omega,by omega,by omega⟩,?_⟩
 refine hW.loopS _ _ _ [.bx 3 [.list (.agg [.int .i64,.int .i64,.int .i64,.int .i64,.int .i64,.bool,.list (.agg [.int .i64,.str]),.int .i64,.int .i64,.int .i64,.list (.int .i64),.list (.int .i64),.list (.int .i64)]),.list (.agg [.str,.int .i64]),.list (.agg [.int .i64,.int .i64,.int .i64,.int .i64,.int .i64,.int .i64,.int .i64,.bool,.list (.agg [.int .i64,.str])]),.list .str],.sl 9 .dp (.int .i64)] (fun ys=>∃i:Nat,ys=[.agg [.list (zCA nodes i),.list (List.replicate nodes.toNat st0),.list [],.list []],.int .i64 i]∧(i:Int)≤nodes) (fun ys=>nodes.toNat - (nth ys 1).I.toNat) ?_ ?_
 ·simp[-List.reduceReplicate,-List.getD_eq_getElem?_getD,zH,zCe]
  exact⟨0,⟨⟨rfl,.inr rfl⟩,rfl⟩,by omega⟩
 ·rintro ys ⟨i,rfl,g1⟩
  have w1:IntKind.i64.wrap ((i:Int)+1)=i+1:=zC (by omega)
  have hl:=yL nodes i
  refine hW.vc [(5,[6,8],tkN [0,1,2,3] (alN [4,5,6] (tkN [7] (alS 8 .done))))] _ _ ?_
  simp[-List.reduceReplicate,-List.getD_eq_getElem?_getD,zH,zCe,zCr,ND.pv,w1]
  refine⟨fun h=>⟨by decide +kernel,⟨by omega,by omega,by omega⟩,by omega,fun _=>⟨⟨i+1,⟨rfl,rfl⟩,by omega⟩,by omega⟩⟩,fun h=>?_⟩
  have:i=nodes.toNat:=by omega
  rw[this]
end
section
variable [zS]
theorem zWQ{cnt:Int}{i:Nat}{n:ND}{b:List UInt8}(a4:NdI cnt i n b){d:Int}(hrt:n.role≠0→1≤n.term)(hr:(zJY n d).2.2=0):TkI cnt n i (zJY n d)∧zJY n d=((zBD n d).1,(zBD n d).2,0)∧0≤d∧d≤1000000∧n.up=true:=by
 unfold zJY at hr ⊢
 cases c1:zB9 n with
 | false=>rw[c1] at hr;simp at hr
 | true=>
  rw[c1] at hr
  simp only[cond_true] at hr ⊢
  cases c2:inB d 0 1000000 with
  | false=>rw[c2] at hr;simp at hr
  | true=>
   rw[c2] at hr
   simp only[cond_true] at hr ⊢
   have hd:=zk.1 c2
   cases c3:n.up with
   | false=>rw[c3] at hr;simp at hr
   | true=>
    simp only[cond_true,and_true]
    have hS:=zRH (d:=d) a4.F
    have hV:=zM4 a4.F hd.1 c3 hrt a4.e
    have nds:=a4.nds
    refine⟨⟨zPS a4.F hd.1 c3,by rw[hS.i];exact a4.id,by rw[hS.nd];exact nds,hV.1,hS.t0,fun a ha=>?_,hS.rt,hS.mono (l:=1000) (by decide)⟩,trivial,hd⟩
    have:=hV.2 a ha
    rw[nds] at this
    exact this
theorem zKI{n:ND}{d:List UInt8}(hF:NdF n)(ht:1≤n.term)(hl:(n.log.length:Int)≠60)(hd:leB d.length 400=true):NdF (yG n d):=by
 have l6:=hF.l6
 have c0:=hF.c0;have c1:=hF.c1
 have hc:=zFh (zAe n d) hF.c0 (n.log.length+1)
 have hcl:(zAe n d).com=n.com:=rfl
 have hcm:(yG n d).com=zGi (zAe n d) (n.log.length+1):=rfl
 have hll:((yG n d).log.length:Int)=n.log.length+1:=by show((n.log++[_]).length:Int)=_;simp
 have hen:zIr n.term 0 (n.log++[.agg [.int .i64 n.term,.str d]])=true:=zIY (e:=.agg [.int .i64 n.term,.str d]) hd ht rfl (by omega) hF.en
 have hl60:(yG n d).log.length≤60:=by omega
 have hnm:=zKO (l:=n.log.length) (l':=(yG n d).log.length) (by omega) hF.nm
 exact⟨hF.n1,hF.n5,hF.i0,hF.i1,hF.t0,hF.t1,hen,hl60,hF.r0,hF.r2,hF.ur,by show 0≤(yG n d).com;omega,by show(yG n d).com≤((yG n d).log.length:Int);omega,hF.e0,hF.e1,hF.w5,hF.w1,hF.nx,hF.ms,hF.vo,hnm,hF.vt⟩
theorem zNI{n:ND}{d:List UInt8}(hF:NdF n):Stp n (yG n d) 0:=
 ⟨Int.le_refl _,by show n.term≤n.term+0;omega,(zFh (zAe n d) hF.c0 (n.log.length+1)).1,fun _ _=>rfl,rfl,rfl,rfl,fun h=>h⟩
theorem zWN{cnt:Int}{i:Nat}{n:ND}{b:List UInt8}(a4:NdI cnt i n b){d:List UInt8}(hrt:n.role≠0→1≤n.term)(hr:(zJX n d).2.2=0):TkI cnt n i (zJX n d)∧zJX n d=(yG n d,zAx (yG n d) n.nodes.toNat,0)∧n.role=2∧(n.log.length:Int)≠60∧n.up=true∧leB d.length 400=true:=by
 unfold zJX at hr ⊢
 split at hr
 ·simp at hr
 ·rename_i c0
  rw[if_neg c0]
  cases c1:zB9 n with
  | false=>rw[c1] at hr;simp at hr
  | true=>
   rw[c1] at hr
   simp only[cond_true] at hr ⊢
   cases c2:inB (d.length:Int) 1 400 with
   | false=>rw[c2] at hr;simp at hr
   | true=>
    rw[c2] at hr
    simp only[cond_true] at hr ⊢
    have hd:=zk.1 c2
    unfold zHG at hr ⊢
    split at hr
    ·simp at hr
    ·rename_i c3
     rw[if_neg c3]
     split at hr
     ·simp at hr
     ·rename_i c4
      rw[if_neg c4]
      split at hr
      ·simp at hr
      ·rename_i c5
       rw[if_neg c5]
       have hro:n.role=2:=Decidable.byContradiction c4
       have hl4:leB d.length 400=true:=by simp[leB];omega
       have ht:=hrt (by omega)
       have hF:=zKI (d:=d) a4.F ht c5 hl4
       have hS:=zNI (d:=d) a4.F
       have nds:=a4.nds
       have n1:=a4.F.n1
       have hE:∀a∈(yG n d).log,isE a:=by
        intro a ha
        rcases List.mem_append.1 (show a∈n.log++_ from ha) with ha | ha
        ·exact a4.e a ha
        ·exact⟨_,_,List.mem_singleton.1 ha⟩
       refine⟨⟨hF,a4.id,nds,hE,Int.le_refl _,fun a ha=>?_,fun h=>h,hS.mono (l:=1000) (by decide)⟩,rfl,hro,c5,by simpa using c3,hl4⟩
       have:=zDO hF ht hE n.nodes.toNat (by show(n.nodes.toNat:Int)≤n.nodes;omega) a ha
       rw[←nds];exact this
theorem zI0{c:CL}(h:ClI c){i:Nat}(hi:i < c.ns.length){r:ND × List PV × Int}(hT:r.2.2=0→TkI c.ns.length (yH c.ns i) i r)(hR:RtI c):ClI (zCy c r).1∧RtI (zCy c r).1∧(zCy c r).1.ns.length=c.ns.length:=by
 unfold zCy
 split
 ·exact⟨h,hR,rfl⟩
 ·rename_i hr
  have hT:=hT (Decidable.byContradiction hr)
  exact⟨zJF h hi hT,zQw hR hi hT.id (hT.rt (hR i hi)),zNx⟩
theorem zHW{n:ND}(h:NdF n):NdF (zO2 n):=
 ⟨h.n1,h.n5,h.i0,h.i1,h.t0,h.t1,h.en,h.l6,h.r0,h.r2,.inl rfl,h.c0,h.c1,h.e0,h.e1,h.w5,h.w1,h.nx,h.ms,h.vo,h.nm,h.vt⟩
theorem zHZ{l:List PV}{i:Nat}{x:PV}(h:nth l i=x)(hi:i < l.length):l.set i x=l:=by
 rw[←h,zHX hi];exact List.set_getElem_self hi
theorem zN5{c:CL}(h:ClI c)(hR:RtI c)(a:CA)(ha:inB a.node 0 (c.ns.length - 1)=true):ClI (zIz c a).1∧RtI (zIz c a).1∧(zIz c a).1.ns.length=c.ns.length:=by
 have ha:=zk.1 ha
 obtain⟨i,hi⟩:∃i:Nat,a.node=i:=⟨a.node.toNat,by omega⟩
 have hil:i < c.ns.length:=by omega
 unfold zIz
 rw[hi,Int.toNat_natCast]
 obtain⟨a1,a2,a3,a4⟩:=h.at hil
 split
 ·split
  ·exact⟨h,hR,rfl⟩
  ·have hp:=h.put hil (x:=zO2 (yH c.ns i)) ⟨zHW a4.F,a4.id,a4.nds,a4.e,a4.l,a4.h⟩ h.wl h.wm h.dl h.dm
   rw[zHZ a2 (by rw[h.sl];exact hil)] at hp
   exact⟨hp,hR.put hil (x:=zO2 (yH c.ns i)) (hR i hil),by simp⟩
 ·split
  ·exact⟨h,hR,rfl⟩
  ·split
   ·exact⟨zQ7 h hil (zL4 h hil 0),zQ6 hR hil,zOK⟩
   ·split
    ·exact zI0 h hil (fun hr=>(zWQ a4 (hR i hil) hr).1) hR
    ·split
     ·exact⟨h,hR,rfl⟩
     ·exact zI0 h hil (fun hr=>(zWN a4 (hR i hil) hr).1) hR
theorem zM8{c:CL}(h:ClI c)(hR:RtI c)(a:CA):ClI (zAS c a).1∧RtI (zAS c a).1∧(zAS c a).1.ns.length=c.ns.length:=by
 unfold zAS
 split
 ·have:=zSu h a
  exact⟨this.1,this.2.1 hR,this.2.2⟩
 ·split
  ·split
   ·exact⟨h,hR,rfl⟩
   ·rename_i ha
    exact zN5 h hR a (by simpa using ha)
  ·exact⟨h,hR,rfl⟩
theorem zNb{c:CL}(h:ClI c)(a:CA)(ha:zYK a.kind=true):ClI (zAS c a).1∧(zAS c a).1.ns.length=c.ns.length:=by
 unfold zAS
 rw[if_pos ha]
 have:=zSu h a
 exact⟨this.1,this.2.2⟩
theorem zBL(nodes:Int):∀(k i:Nat),i < k→nth (zCA nodes k) i=(zCr i nodes 0 (-1) []).pv
 | 0,i,h=>by omega
 | k+1,i,h=>by
  rw[zCA]
  by_cases e:i < k
  ·rw[zEd (by rw[yL];exact e)];exact zBL nodes k i e
  ·have:i=(zCA nodes k).length:=by rw[yL];omega
   rw[this,zF2,yL]
theorem zR7{i cnt:Nat}(hi:i < cnt)(h5:cnt≤5):NdF (zCr i cnt 0 (-1) []):=by
 have h:=zWo (s:=ST.one) (i:=i) (cnt:=cnt) (by decide) hi h5 (by show(-1:Int) < cnt;omega)
 exact zHW h
def yR(nodes:Nat):CL:=⟨zCA nodes nodes,List.replicate nodes st0,[],[]⟩
theorem zK4{nodes:Nat}(h1:1≤nodes)(h5:nodes≤5):ClI (yR nodes)∧RtI (yR nodes):=by
 have hl:(yR nodes).ns.length=nodes:=yL nodes nodes
 refine⟨⟨by omega,by omega,by rw[hl];simp[yR],fun i hi=>?_,by simp[yR],by simp[yR],by simp[yR],by simp[yR]⟩,fun i hi hr=>?_⟩
 ·have hi':i < nodes:=by omega
  refine⟨zCr i nodes 0 (-1) [],[],zBL _ _ _ hi',?_,?_⟩
  ·show nth (List.replicate nodes st0) i=_
   rw[zJL hi'];rfl
  ·rw[hl]
   exact⟨zR7 hi' h5,rfl,rfl,by simp[zCr],by simp,zGF⟩
 ·have:yH (yR nodes).ns i=zCr i nodes 0 (-1) []:=by
   rw[yH,show nth (yR nodes).ns i=_ from zBL _ _ _ (by omega)];rfl
  rw[this] at hr
  exact absurd rfl hr
end
section
variable [zS]
def zW:zJ:=⟨[(.rd,.agg [.str,.int .i64])],[.bool],true,fun _=>True,fun ps=>[.bool (zDz (nth (nth ps 0).A 0).S (nth (nth ps 0).A 1).I)],fun _=>[]⟩
theorem zEI:zh Tryz.prog 85 zW:=by
 refine zP [0,1,2] [.tmp 2] (zA (cs:=[]) zA9 (zD (zB []))) mixed Tryz.func85 rfl (by decide) rfl (by decide) rfl ?_
 intro ps hT hpre W hW
 simp only[zW,TyA,Ty,Tys] at hT hpre
 obtain⟨_,_,rfl,⟨_,rfl,_,_,rfl,⟨b,rfl,hb⟩,_,_,rfl,⟨sure,rfl,hsure⟩,rfl⟩,rfl⟩:=hT
 refine hW.vc [] _ _ ?_
 simp[-List.getD_eq_getElem?_getD,zW,zT]
 exact fun _ _=>rfl
def yY:zJ:=zW
theorem zIQ:zh Tryz.prog 109 yY:=by
 refine zP [0,1,2] [.tmp 2] (zA (cs:=[]) zEj (zD (zB []))) mixed Tryz.func109 rfl (by decide) rfl (by decide) rfl ?_
 intro ps hT hpre W hW
 simp only[yY,TyA,Ty,Tys] at hT hpre
 simp only[zW,TyA,Ty,Tys] at hT
 obtain⟨_,_,rfl,⟨_,rfl,_,_,rfl,⟨b,rfl,hb⟩,_,_,rfl,⟨sure,rfl,hsure⟩,rfl⟩,rfl⟩:=hT
 refine hW.vc [] _ _ ?_
 simp[-List.getD_eq_getElem?_getD,yY,zCC,zW,zT,zT,zW]
 exact fun _ _=>rfl
theorem zGT:∀{us vs:List PV},us.length=vs.length→((zBk us vs:Int) == us.length)=eqL ze us vs
 | [],[],_=>rfl
 | [],_ :: _,h=>by simp at h
 | _ :: _,[],h=>by simp at h
 | a :: us,b :: vs,h=>by
  have ih:=zGT (us:=us) (vs:=vs) (by simpa using h)
  simp only[zBk,eqL]
  cases hk:ze a b with
  | false=>simp;omega
  | true=>
   rw[if_pos rfl,Bool.true_and,←ih,Bool.eq_iff_iff]
   simp only[beq_iff_eq,List.length_cons]
   omega
def yX:zJ:=⟨[(.rd,.agg [.int .i64,.int .i64,.list (.agg [.int .i64,.str])]),(.rd,.agg [.int .i64,.int .i64,.list (.agg [.int .i64,.str])])],[.bool],true,fun _=>True,fun ps=>[.bool (decide ((nth (nth ps 0).A 0).I=(nth (nth ps 1).A 0).I)&&decide ((nth (nth ps 0).A 1).I=(nth (nth ps 1).A 1).I)&&eqL ze (nth (nth ps 0).A 2).L (nth (nth ps 1).A 2).L)],fun _=>[]⟩
theorem zIJ:zh Tryz.prog 111 yX:=by
 refine zP [0,1,2,3,4] [.tmp 4] (zA (cs:=[]) zIK (zD (zB []))) mixed Tryz.func111 rfl (by decide) rfl (by decide) rfl ?_
 intro ps hT hpre W hW
 simp only[yX,TyA,Ty,Tys] at hT hpre
 obtain⟨_,_,rfl,⟨_,rfl,_,_,rfl,⟨t,rfl,ht⟩,_,_,rfl,⟨v,rfl,hv⟩,_,_,rfl,⟨es,rfl,hes,tes⟩,rfl⟩,_,_,rfl,⟨_,rfl,_,_,rfl,⟨t2,rfl,ht2⟩,_,_,rfl,⟨v2,rfl,hv2⟩,_,_,rfl,⟨es2,rfl,hes2,tes2⟩,rfl⟩,rfl⟩:=hT
 refine hW.vc [(1,[],tkN [0,1,2,3,4,5,6,7,8,9,10,11,12,13,14,15,16,17,18,19,20,21,22,23,24,25,27,28,29] (alS 26 (tkN [30,31] (alS 32 .done))))] _ _ ?_
 simp[-List.getD_eq_getElem?_getD,yX,zA7]
 refine⟨by decide +kernel,fun _ _ _=>?_⟩
 by_cases hl:es.length=es2.length
 ·have:decide ((es.length:Int)=es2.length)=true:=decide_eq_true (by omega)
  rw[zGT hl,this,Bool.and_true]
  rfl
 ·have:decide ((es.length:Int)=es2.length)=false:=decide_eq_false (by omega)
  rw[this,zAX hl]
  simp
end
section
variable [zS]
def yS:zJ:=⟨[(.rd,.list (.agg [.int .i64,.str])),(.rd,.list (.agg [.int .i64,.str]))],[.bool],true,fun _=>True,fun ps=>[.bool (eqL ze (nth ps 0).L (nth ps 1).L)],fun _=>[]⟩
theorem zGC:zh Tryz.prog 118 yS:=by
 refine zP [0,1,4,5,12,13] [.tmp 4] (zD (zB [])) mixed Tryz.func118 rfl (by decide) rfl (by decide) rfl ?_
 intro ps hT hpre W hW
 simp only[yS,TyA,Ty,Tys] at hT hpre
 obtain⟨_,_,rfl,⟨es,rfl,hes,tes⟩,_,_,rfl,⟨fs,rfl,hfs,tfs⟩,rfl⟩:=hT
 refine hW.vc [(6,[],tkN [0,1,2,3,4,5,6,7,8] .done)] _ _ ?_
 simp[-List.getD_eq_getElem?_getD,yS]
 refine fun _ _=>⟨fun h3=>zAX (by omega),fun h3 _=>?_⟩
 refine hW.loopS _ _ _ [.sl 13 .dp (.int .i64)] (fun ys=>∃i:Nat,ys=[.int .i64 i]∧i≤es.length∧eqL ze es fs=eqL ze (es.drop i) (fs.drop i)) (fun ys=>es.length - (nth ys 0).I.toNat) ?_ ?_
 ·simp[-List.getD_eq_getElem?_getD,yS]
  exact⟨0,rfl,by omega,by simp⟩
 ·rintro ys ⟨i,rfl,h4,h5⟩
  refine hW.vc [(6,[],tkN [0,1,2,3,4,5,6,7,8] .done)] _ _ ?_
  simp[-List.getD_eq_getElem?_getD,yS]
  refine⟨fun h6=>⟨by decide +kernel,h6,fun _ _ _=>⟨by omega,fun _ _ _=>⟨by decide +kernel,fun h7=>?_,fun h7 h8=>?_⟩⟩⟩,fun h6=>?_⟩
  ·have hx:ze (nth es i) (nth fs i)=false:=zGM fun a b=>by
    rcases h7 with h7 | h7
    ·exact h7 a
    ·exact h7 b
   rw[h5,zG h6,zG (by omega:i < fs.length),eqL,hx,Bool.false_and]
  ·rw[zC (by omega)]
   refine⟨⟨i+1,by omega,by omega,?_⟩,by omega⟩
   rw[h5,zG h6,zG (by omega:i < fs.length),eqL,zGL h7 h8,Bool.true_and]
  ·rw[h5,List.drop_eq_nil_of_le h6,List.drop_eq_nil_of_le (by omega)];rfl
def mgX(cnt:Int)(e:PV):Bool:=!mgB (yk e.A) || decide (cnt≤(yk e.A).frm) || decide (cnt≤(yk e.A).to)
theorem zIA(w:Int)(e:PV):mgX w (.agg [.int .i64 (nth e.A 0).I,.int .i64 (nth e.A 1).I,.int .i64 (nth e.A 2).I,.int .i64 (nth e.A 3).I,.int .i64 (nth e.A 4).I,.int .i64 (nth e.A 5).I,.int .i64 (nth e.A 6).I,.bool (nth e.A 7).B,.list (nth e.A 8).L])=mgX w e:=rfl
def zu:zJ:=⟨[(.rd,.agg [.int .i64,.int .i64,.int .i64,.int .i64,.int .i64,.int .i64,.int .i64,.bool,.list (.agg [.int .i64,.str])]),(.rd,.box [.int .i64])],[.bool],true,fun _=>True,fun ps=>[.bool (mgX (nth (nth ps 1).A 0).I (nth ps 0))],fun _=>[]⟩
theorem zCc:zh Tryz.prog 120 zu:=by
 refine zP [0,1,2,3] [.tmp 3] (zA (cs:=[]) zFZ (zD (zB []))) mixed Tryz.func120 rfl (by decide) rfl (by decide) rfl ?_
 intro ps hT hpre W hW
 simp only[zu,TyA,Ty,Tys] at hT hpre
 obtain⟨_,_,rfl,hm,_,_,rfl,⟨_,rfl,_,_,rfl,⟨w,rfl,hw⟩,rfl⟩,rfl⟩:=hT
 obtain⟨_,rfl,_,_,rfl,⟨m0,rfl,hm0⟩,_,_,rfl,⟨m1,rfl,hm1⟩,_,_,rfl,⟨m2,rfl,hm2⟩,_,_,rfl,⟨m3,rfl,hm3⟩,_,_,rfl,⟨m4,rfl,hm4⟩,_,_,rfl,⟨m5,rfl,hm5⟩,_,_,rfl,⟨m6,rfl,hm6⟩,_,_,rfl,⟨m7,rfl⟩,_,_,rfl,⟨m8,rfl,hm8,tm8⟩,rfl⟩:=hm
 refine hW.vc [] _ _ ?_
 simp[-List.getD_eq_getElem?_getD,zu,zY,yk,mgX]
 rfl
def zR:zJ:=⟨[(.rd,.list (.agg [.int .i64,.int .i64,.int .i64,.int .i64,.int .i64,.int .i64,.int .i64,.bool,.list (.agg [.int .i64,.str])])),(.rd,.fn 120 [.box [.int .i64]])],[.int .i64],true,fun _=>True,fun ps=>[.int .i64 (zBA (mgX (nth (nth (nth ps 1).A 0).A 0).I) 0 (nth ps 0).L)],fun _=>[]⟩
theorem yt:zh Tryz.prog 165 zR:=by
 refine zP [0,1,4,5,7,8] [.tmp 4] (zA (cs:=[]) zCc (zD (zB []))) mixed Tryz.func165 rfl (by decide) rfl (by decide) rfl ?_
 intro ps hT hpre W hW
 simp only[zR,TyA,Ty,Tys] at hT hpre
 obtain⟨_,_,rfl,⟨es,rfl,he,hes⟩,_,_,rfl,⟨_,rfl,_,_,rfl,⟨_,rfl,_,_,rfl,⟨w,rfl,hw⟩,rfl⟩,rfl⟩,rfl⟩:=hT
 refine hW.vc [] _ _ ?_
 simp[-List.getD_eq_getElem?_getD,zR,zu]
 intro h1
 refine hW.loopS _ _ _ [.sl 8 .dp (.int .i64)] (fun ys=>∃i:Nat,ys=[.int .i64 i]∧i≤es.length∧zBA (mgX w) 0 es=zBA (mgX w) i (es.drop i)) (fun ys=>es.length - (nth ys 0).I.toNat) ?_ ?_
 ·simp[-List.getD_eq_getElem?_getD,zR,zu]
  exact⟨0,rfl,by simp,by simp⟩
 ·rintro ys ⟨i,rfl,h2,h3⟩
  refine hW.vc [] _ _ ?_
  simp[-List.getD_eq_getElem?_getD,zR,zu,zIA]
  refine⟨fun h4=>⟨h4,fun _ _ _ _ _ _ _ _ _ _ _ _ _ _ _=>⟨fun h5=>?_,fun h5=>?_⟩⟩,fun h4=>?_⟩
  ·rw[h3,zG h4];simp[zBA,h5]
  ·rw[zC (by omega)]
   refine⟨⟨i+1,by omega,by omega,?_⟩,by omega⟩
   rw[h3,zG h4];simp[zBA,h5]
  ·rw[h3,List.drop_eq_nil_of_le h4];rfl
def zO:zJ:=⟨[(.rd,.list (.agg [.int .i64,.int .i64,.int .i64,.int .i64,.int .i64,.int .i64,.int .i64,.bool,.list (.agg [.int .i64,.str])])),(.rd,.fn 120 [.box [.int .i64]])],[.bool],true,fun _=>True,fun ps=>[.bool ((nth ps 0).L.any (mgX (nth (nth (nth ps 1).A 0).A 0).I))],fun _=>[]⟩
theorem yV:zh Tryz.prog 119 zO:=by
 refine zP [0,1,4] [.tmp 4] (zA (cs:=[120]) yt (zD (zB []))) mixed Tryz.func119 rfl (by decide) rfl (by decide) rfl ?_
 intro ps hT hpre W hW
 simp only[zO,TyA,Ty,Tys] at hT hpre
 obtain⟨_,_,rfl,⟨es,rfl,he,hes⟩,_,_,rfl,⟨_,rfl,_,_,rfl,⟨_,rfl,_,_,rfl,⟨w,rfl,hw⟩,rfl⟩,rfl⟩,rfl⟩:=hT
 refine hW.vc [] _ _ ?_
 simp[-List.getD_eq_getElem?_getD,zO,zR]
 exact zDA _ _ _
def zAU(s:List UInt8):Bool:=decide (s.length > 400)
def zt:zJ:=⟨[(.rd,.str)],[.bool],true,fun _=>True,fun ps=>[.bool (zAU (nth ps 0).S)],fun _=>[]⟩
theorem zCb:zh Tryz.prog 123 zt:=by
 refine zP [0,2] [.tmp 2] (zD (zB [])) mixed Tryz.func123 rfl (by decide) rfl (by decide) rfl ?_
 intro ps hT hpre W hW
 simp only[zt,TyA,Ty,Tys] at hT hpre
 obtain⟨_,_,rfl,⟨l,rfl,hl⟩,rfl⟩:=hT
 refine hW.vc [] _ _ ?_
 simp[-List.getD_eq_getElem?_getD,zt]
 exact fun _=>by unfold zAU;congr 1;simp only[eq_iff_iff];omega
def zQ:zJ:=⟨[(.rd,.list .str),(.rd,.fn 123 [])],[.int .i64],true,fun ps=>True,fun ps=>[.int .i64 (zBA (fun e=>zAU e.S) 0 (nth ps 0).L)],fun _=>[]⟩
theorem yr:zh Tryz.prog 167 zQ:=by
 refine zP [0,1,4,5,7,8] [.tmp 4] (zA (cs:=[]) zCb (zD (zB []))) mixed Tryz.func167 rfl (by decide) rfl (by decide) rfl ?_
 intro ps hT hpre W hW
 simp only[zQ,TyA,Ty,Tys] at hT hpre
 obtain⟨_,_,rfl,⟨es,rfl,he,hes⟩,_,_,rfl,⟨_,rfl,rfl⟩,rfl⟩:=hT
 refine hW.vc [] _ _ ?_
 simp[-List.getD_eq_getElem?_getD,zQ,zt]
 intro h1
 refine hW.loopS _ _ _ [.sl 8 .dp (.int .i64)] (fun ys=>∃i:Nat,ys=[.int .i64 i]∧i≤es.length∧zBA (fun e=>zAU e.S) 0 es=zBA (fun e=>zAU e.S) i (es.drop i)) (fun ys=>es.length - (nth ys 0).I.toNat) ?_ ?_
 ·simp[-List.getD_eq_getElem?_getD,zQ,zt]
  exact⟨0,rfl,by simp,by simp⟩
 ·rintro ys ⟨i,rfl,h2,h3⟩
  refine hW.vc [] _ _ ?_
  simp[-List.getD_eq_getElem?_getD,zQ,zt]
  refine⟨fun h4=>⟨h4,fun _=>⟨fun h5=>?_,fun h5=>?_⟩⟩,fun h4=>?_⟩
  ·rw[h3,zG h4];simp[zBA,h5]
  ·rw[zC (by omega)]
   refine⟨⟨i+1,by omega,by omega,?_⟩,by omega⟩
   rw[h3,zG h4];simp[zBA,h5]
  ·rw[h3,List.drop_eq_nil_of_le h4];rfl
def zN:zJ:=⟨[(.rd,.list .str),(.rd,.fn 123 [])],[.bool],true,fun ps=>True,fun ps=>[.bool ((nth ps 0).L.any (fun e=>zAU e.S))],fun _=>[]⟩
theorem yU:zh Tryz.prog 122 zN:=by
 refine zP [0,1,4] [.tmp 4] (zA (cs:=[123]) yr (zD (zB []))) mixed Tryz.func122 rfl (by decide) rfl (by decide) rfl ?_
 intro ps hT hpre W hW
 simp only[zN,TyA,Ty,Tys] at hT hpre
 obtain⟨_,_,rfl,⟨es,rfl,he,hes⟩,_,_,rfl,⟨_,rfl,rfl⟩,rfl⟩:=hT
 refine hW.vc [] _ _ ?_
 simp[-List.getD_eq_getElem?_getD,zN,zQ]
 exact zDA (fun e=>zAU e.S) es 0
def rcB(n s:PV):Bool:=decide ((yP (nth s.A 0).S).2.2=0)&&decide ((yP (nth s.A 0).S).2.1.1=(nth s.A 0).S)&&decide ((yP (nth s.A 0).S).2.1.2=(nth s.A 1).I)&&decide ((yP (nth s.A 0).S).1.t=(z8 n.A).term)&&decide ((yP (nth s.A 0).S).1.v=(z8 n.A).vote)&&eqL ze (yP (nth s.A 0).S).1.log (z8 n.A).log
def atB(cnt:Int)(i:Nat)(n s:PV):Bool:=(zB9 (z8 n.A)&&decide ((z8 n.A).id=i)&&decide ((z8 n.A).nodes=cnt)&&zDz (nth s.A 0).S (nth s.A 1).I&&decide ((nth s.A 1).I=(nth s.A 0).S.length))&&rcB n s
def nsB(cnt:Int):Nat→List PV→List PV→Bool
 | i,n :: ns,s :: ss=>atB cnt i n s&&nsB cnt (i+1) ns ss
 | _,_,_=>true
def zCw(ns ss ws ds:List PV):Bool:=(inB ns.length 1 5&&decide (ss.length=ns.length)&&leB ws.length 60&&leB ds.length 60)&&nsB ns.length 0 ns ss&&(!ws.any (mgX ns.length)&&!ds.any fun e=>zAU e.S)
theorem zVB{cnt:Int}{i:Nat}{n s:PV}(h:(((zB9 (z8 n.A)=false∨¬(nth n.A 0).I=i)∨¬(nth n.A 1).I=cnt)∨zDz (nth s.A 0).S (nth s.A 1).I=false)∨¬(nth s.A 1).I=(nth s.A 0).S.length):atB cnt i n s=false:=by
 have e:(zB9 (z8 n.A)&&decide ((z8 n.A).id=i)&&decide ((z8 n.A).nodes=cnt)&&zDz (nth s.A 0).S (nth s.A 1).I&&decide ((nth s.A 1).I=(nth s.A 0).S.length))=false:=by
  rcases h with (((h | h) | h) | h) | h
  ·rw[h];simp
  ·have:decide ((z8 n.A).id=i)=false:=decide_eq_false h
   rw[this];simp
  ·have:decide ((z8 n.A).nodes=cnt)=false:=decide_eq_false h
   rw[this];simp
  ·rw[h];simp
  ·rw[decide_eq_false h];simp
 rw[atB,e,Bool.false_and]
theorem zR0{n s:PV}(h:((((¬(yP (nth s.A 0).S).2.2=0∨¬(yP (nth s.A 0).S).2.1.1=(nth s.A 0).S∨¬(yP (nth s.A 0).S).2.1.2=(nth s.A 1).I)∨¬(yP (nth s.A 0).S).1.t=(nth n.A 2).I)∨¬(yP (nth s.A 0).S).1.v=(nth n.A 3).I)∨eqL ze (yP (nth s.A 0).S).1.log (nth n.A 6).L=false)):rcB n s=false:=by
 unfold rcB
 rcases h with (((h | h | h) | h) | h) | h
 ·rw[decide_eq_false h];simp
 ·rw[decide_eq_false h];simp
 ·rw[decide_eq_false h];simp
 ·have:decide ((yP (nth s.A 0).S).1.t=(z8 n.A).term)=false:=decide_eq_false h
  rw[this];simp
 ·have:decide ((yP (nth s.A 0).S).1.v=(z8 n.A).vote)=false:=decide_eq_false h
  rw[this];simp
 ·have:eqL ze (yP (nth s.A 0).S).1.log (z8 n.A).log=false:=h
  rw[this];simp
theorem zOT{cnt:Int}{i:Nat}{n s:PV}(h1:zB9 (z8 n.A)=true)(h2:(nth n.A 0).I=i)(h3:(nth n.A 1).I=cnt)(h4:zDz (nth s.A 0).S (nth s.A 1).I=true)(h5:(nth s.A 1).I=(nth s.A 0).S.length):atB cnt i n s=rcB n s:=by
 have a2:decide ((z8 n.A).id=i)=true:=decide_eq_true h2
 have a3:decide ((z8 n.A).nodes=cnt)=true:=decide_eq_true h3
 rw[atB,h1,a2,a3,h4,decide_eq_true h5];rfl
theorem zRz{n s:PV}(h1:(yP (nth s.A 0).S).2.2=0)(h2:(yP (nth s.A 0).S).2.1.1=(nth s.A 0).S)(h3:(yP (nth s.A 0).S).2.1.2=(nth s.A 1).I)(h4:(yP (nth s.A 0).S).1.t=(nth n.A 2).I)(h5:(yP (nth s.A 0).S).1.v=(nth n.A 3).I)(h6:eqL ze (yP (nth s.A 0).S).1.log (nth n.A 6).L=true):rcB n s=true:=by
 have a4:decide ((yP (nth s.A 0).S).1.t=(z8 n.A).term)=true:=decide_eq_true h4
 have a5:decide ((yP (nth s.A 0).S).1.v=(z8 n.A).vote)=true:=decide_eq_true h5
 have a6:eqL ze (yP (nth s.A 0).S).1.log (z8 n.A).log=true:=h6
 rw[rcB,decide_eq_true h1,decide_eq_true h2,decide_eq_true h3,a4,a5,a6];rfl
theorem zH4{cnt:Int}{i:Nat}{ns ss:List PV}(h:i < ns.length)(h2:i < ss.length):nsB cnt i (ns.drop i) (ss.drop i)=(atB cnt i (nth ns i) (nth ss i)&&nsB cnt (i+1) (ns.drop (i+1)) (ss.drop (i+1))):=by
 rw[zG h,zG h2,nsB]
theorem zCt{ns ss ws ds:List PV}(h:nsB ns.length 0 ns ss=false):zCw ns ss ws ds=false:=by rw[zCw,h];simp
theorem zFd{ns ss ws ds:List PV}(h:((inB ns.length 1 5=false∨¬(ss.length:Int)=ns.length)∨60 < (ws.length:Int))∨60 < (ds.length:Int)):zCw ns ss ws ds=false:=by
 have e:(inB ns.length 1 5&&decide (ss.length=ns.length)&&leB ws.length 60&&leB ds.length 60)=false:=by
  rcases h with ((h | h) | h) | h
  ·rw[h];simp
  ·have:decide (ss.length=ns.length)=false:=decide_eq_false (by omega)
   rw[this];simp
  ·have:leB ws.length 60=false:=by simp[leB];omega
   rw[this];simp
  ·have:leB ds.length 60=false:=by simp[leB];omega
   rw[this];simp
 rw[zCw,e,Bool.false_and,Bool.false_and]
theorem zGU{ns ss ws ds:List PV}(h1:inB ns.length 1 5=true)(h2:(ss.length:Int)=ns.length)(h3:(ws.length:Int)≤60)(h4:(ds.length:Int)≤60):zCw ns ss ws ds=(nsB ns.length 0 ns ss&&(!ws.any (mgX ns.length)&&!ds.any fun e=>zAU e.S)):=by
 have a2:decide (ss.length=ns.length)=true:=decide_eq_true (by omega)
 have a3:leB ws.length 60=true:=by simp[leB];omega
 have a4:leB ds.length 60=true:=by simp[leB];omega
 rw[zCw,h1,a2,a3,a4];rfl
theorem zIj{p:PV→Bool}{es:List PV}:decide (∀x:PV,x∈es→p x=false)=!es.any p:=by
 rw[Bool.eq_iff_iff];simp
def zI:zJ:=⟨[(.rd,.agg [.list (.agg [.int .i64,.int .i64,.int .i64,.int .i64,.int .i64,.bool,.list (.agg [.int .i64,.str]),.int .i64,.int .i64,.int .i64,.list (.int .i64),.list (.int .i64),.list (.int .i64)]),.list (.agg [.str,.int .i64]),.list (.agg [.int .i64,.int .i64,.int .i64,.int .i64,.int .i64,.int .i64,.int .i64,.bool,.list (.agg [.int .i64,.str])]),.list .str])],[.bool],true,fun _=>True,fun ps=>[.bool (zCw (nth (nth ps 0).A 0).L (nth (nth ps 0).A 1).L (nth (nth ps 0).A 2).L (nth (nth ps 0).A 3).L)],fun _=>[]⟩
theorem zBi:zh Tryz.prog 75 zI:=by
 refine zP [0,1,2,3,4,5,6,7,8,9,36,37,38] [.tmp 2] (zA (cs:=[123]) yU (zA (cs:=[120]) yV (zA (cs:=[]) zGC (zA (cs:=[]) zEh (zA (cs:=[]) zEI (zA (cs:=[]) zHa (zA (cs:=[]) zA9 (zD (zB []))))))))) mixed Tryz.func75 rfl (by decide) rfl (by decide) rfl ?_
 intro ps hT hpre W hW
 simp only[zI,TyA,Ty,Tys] at hT hpre
 obtain⟨_,_,rfl,⟨_,rfl,_,_,rfl,⟨ns,rfl,hns,tns⟩,_,_,rfl,⟨ss,rfl,hss,tss⟩,_,_,rfl,⟨ws,rfl,hws,tws⟩,_,_,rfl,⟨ds,rfl,hds,tds⟩,rfl⟩,rfl⟩:=hT
 refine hW.vc [] _ _ ?_
 simp[-List.getD_eq_getElem?_getD,zI,zT,zo,zW,zAE,yS,zO,zN]
 refine fun _ _ _ _=>⟨fun h1=>zFd h1,fun h1 h2 h3 h4 _=>?_⟩
 have hC:=zGU h1 h2 h3 h4
 refine hW.loopS _ _ _ [.sl 38 .dp (.int .i64)] (fun ys=>∃i:Nat,ys=[.int .i64 i]∧i≤ns.length∧nsB ns.length 0 ns ss=nsB ns.length i (ns.drop i) (ss.drop i)) (fun ys=>ns.length - (nth ys 0).I.toNat) ?_ ?_
 ·simp[-List.getD_eq_getElem?_getD,zI,zT,zo,zW,zAE,yS,zO,zN]
  exact⟨0,rfl,by simp,by simp⟩
 ·rintro ys ⟨i,rfl,h5,h6⟩
  refine hW.vc [] _ _ ?_
  simp[-List.getD_eq_getElem?_getD,zI,zT,zo,zW,zAE,yS,zO,zN,zF3]
  refine⟨fun h7=>⟨h7,?_⟩,fun h7=>?_⟩
  ·have h8:i < ss.length:=by omega
   rw[zH4 h7 h8] at h6
   intros
   refine⟨h8,?_⟩
   intros
   refine⟨fun q=>zCt (by rw[h6,zVB q,Bool.false_and]),fun q1 q2 q3 q4 q5=>?_⟩
   rw[zOT q1 q2 q3 q4 q5] at h6
   have hl:(nth (nth ss i).A 0).S.length≤60000:=by
    simp only[zDz,Bool.and_eq_true,leB,decide_eq_true_eq] at q4
    omega
   refine⟨by omega,fun q=>⟨q,by decide +kernel⟩,fun q=>zCt (by rw[h6,zR0 q,Bool.false_and]),fun r1 r2 r3 r4 r5 r6=>?_⟩
   rw[zRz r1 r2 r3 r4 r5 r6,Bool.true_and] at h6
   rw[zC (by omega)]
   exact⟨⟨i+1,by omega,by omega,h6⟩,by omega⟩
  ·rw[List.drop_eq_nil_of_le h7] at h6
   rw[hC,h6,zIj]
   rfl
theorem zVA{cnt:Int}{i:Nat}{n s:PV}(h:(((¬(nth n.A 0).I=i∨¬(nth n.A 1).I=cnt)∨zB9 (z8 n.A)=false)∨zDz (nth s.A 0).S (nth s.A 1).I=false)∨¬(nth s.A 1).I=(nth s.A 0).S.length):atB cnt i n s=false:=by
 refine zVB ?_
 rcases h with (((h | h) | h) | h) | h
 ·exact .inl (.inl (.inl (.inr h)))
 ·exact .inl (.inl (.inr h))
 ·exact .inl (.inl (.inl (.inl h)))
 ·exact .inl (.inr h)
 ·exact .inr h
theorem zMO{b:List UInt8}(h:(yP b).2.2=0)(h2:(yP b).2.1.2=b.length):(yP b).2.1.1=b:=by
 unfold yP at h h2 ⊢
 split at h
 ·simp at h
 ·rename_i h8
  rw[if_neg h8] at h2 ⊢
  split at h
  ·rename_i h9
   rw[if_pos h9] at h2 ⊢
   simp only at h2 ⊢
   exact List.take_of_length_le (by omega)
  ·simp at h
theorem zUX{n s:PV}(h5:(nth s.A 1).I=(nth s.A 0).S.length)(h:(¬(zEO (nth s.A 0).S (nth s.A 1).I).2.2=0∨¬(zEO (nth s.A 0).S (nth s.A 1).I).2.1.2=(nth s.A 1).I)∨(decide ((zEO (nth s.A 0).S (nth s.A 1).I).1.t=(nth n.A 2).I)=false∨decide ((zEO (nth s.A 0).S (nth s.A 1).I).1.v=(nth n.A 3).I)=false)∨eqL ze (zEO (nth s.A 0).S (nth s.A 1).I).1.log (nth n.A 6).L=false):rcB n s=false:=by
 by_cases hc:(yP (nth s.A 0).S).2.2=0
 ·rw[zRy _ hc] at h
  refine zR0 ?_
  rcases h with (h | h) | (h | h) | h
  ·exact .inl (.inl (.inl (.inl h)))
  ·exact .inl (.inl (.inl (.inr (.inr h))))
  ·exact .inl (.inl (.inr (of_decide_eq_false h)))
  ·exact .inl (.inr (of_decide_eq_false h))
  ·exact .inr h
 ·exact zR0 (.inl (.inl (.inl (.inl hc))))
theorem zbM{n s:PV}(h5:(nth s.A 1).I=(nth s.A 0).S.length)(h1:(zEO (nth s.A 0).S (nth s.A 1).I).2.2=0)(h2:(zEO (nth s.A 0).S (nth s.A 1).I).2.1.2=(nth s.A 1).I)(h3:decide ((zEO (nth s.A 0).S (nth s.A 1).I).1.t=(nth n.A 2).I)=true)(h4:decide ((zEO (nth s.A 0).S (nth s.A 1).I).1.v=(nth n.A 3).I)=true)(h6:eqL ze (zEO (nth s.A 0).S (nth s.A 1).I).1.log (nth n.A 6).L=true):rcB n s=true:=by
 have hc:(yP (nth s.A 0).S).2.2=0:=by rw[zKH] at h1;exact h1
 rw[zRy _ hc] at h2 h3 h4 h6
 exact zRz hc (zMO hc (by rw[h2,h5])) h2 (of_decide_eq_true h3) (of_decide_eq_true h4) h6
end
section
variable [zS]
theorem zIW(a:PV):ze a a=true:=by simp[ze,zEP]
theorem zIX:∀es:List PV,eqL ze es es=true
 | []=>rfl
 | e :: es=>by rw[eqL,zIW,zIX es];rfl
theorem zEp:∀{es fs:List PV},(∀e∈es,isE e)→(∀e∈fs,isE e)→eqL ze es fs=true→es=fs
 | [],[],_,_,_=>rfl
 | [],_ :: _,_,_,h=>by simp[eqL] at h
 | _ :: _,[],_,_,h=>by simp[eqL] at h
 | a :: es,b :: fs,h1,h2,h=>by
  rw[eqL,Bool.and_eq_true] at h
  rw[zQQ (h1 a (by simp)) (h2 b (by simp)) h.1,zEp (fun e he=>h1 e (by simp[he])) (fun e he=>h2 e (by simp[he])) h.2]
theorem zMm{b:List UInt8}{s:ST}(h:zGk b s):yP b=(s,(b,(b.length:Int)),0):=by
 have:=zPm h 0
 rwa[List.take_of_length_le] at this
 have:=zOL b.length 0 0
 obtain⟨n,_,e⟩:=this
 simp only[Nat.add_zero] at e
 omega
theorem zH5{cnt:Int}:∀{ns ss:List PV} {i:Nat},ss.length=ns.length→(∀j,j < ns.length→atB cnt (i+j) (nth ns j) (nth ss j)=true)→nsB cnt i ns ss=true
 | [],_,_,_,_=>by simp[nsB]
 | n :: ns,[],_,h,_=>by simp at h
 | n :: ns,s :: ss,i,h,ha=>by
  rw[nsB,show atB cnt i n s=true from ha 0 (by simp),Bool.true_and]
  refine zH5 (by simpa using h) fun j hj=>?_
  have:=ha (j+1) (by simpa using hj)
  rw[zF,zF] at this
  rw[show i+1+j=i+(j+1) by omega]
  exact this
theorem zEe{cnt:Int}:∀{ns ss:List PV} {i:Nat},ss.length=ns.length→nsB cnt i ns ss=true→∀j,j < ns.length→atB cnt (i+j) (nth ns j) (nth ss j)=true
 | [],_,_,_,_,j,hj=>by simp at hj
 | n :: ns,[],_,h,_,_,_=>by simp at h
 | n :: ns,s :: ss,i,h,ha,j,hj=>by
  rw[nsB,Bool.and_eq_true] at ha
  cases j with
  | zero=>exact ha.1
  | succ j=>
   have:=zEe (by simpa using h) ha.2 j (by simpa using hj)
   rw[zF,zF,show i+(j+1)=i+1+j by omega]
   exact this
theorem zUc{cnt:Int}{e:PV}(h:mgV cnt e):mgX cnt e=false:=by
 obtain⟨m,rfl,m2,m3,m4,_⟩:=h
 refine(?_:mgX cnt m.pv=false)
 have a2:decide (cnt≤m.frm)=false:=decide_eq_false (by omega)
 have a3:decide (cnt≤m.to)=false:=decide_eq_false (by omega)
 rw[mgX,zMS,m2,a2,a3];rfl
theorem ClI.ok{c:CL}(h:ClI c):zCw c.ns c.ss c.ws c.ds=true:=by
 have n1:=h.n1;have n5:=h.n5;have sl:=h.sl;have wl:=h.wl;have dl:=h.dl
 have hN:nsB c.ns.length 0 c.ns c.ss=true:=zH5 sl fun j hj=>by
  obtain⟨x,b,h1,h2,h3⟩:=h.nd j hj
  rw[h1,h2,Nat.zero_add]
  have hR:=zMm h3.h
  have l:=h3.l
  have hst:zDz b b.length=true:=by
   simp only[zDz,Bool.and_eq_true,leB,zk,decide_eq_true_eq]
   omega
  have e1:(nth (sto b b.length).A 0).S=b:=rfl
  have e2:(nth (sto b b.length).A 1).I=b.length:=rfl
  have hr:rcB x.pv (sto b b.length)=true:=by
   refine zRz ?_ ?_ ?_ ?_ ?_ ?_<;>rw[e1,hR]
   ·rfl
   ·rfl
   ·rfl
   ·exact zIX _
  rw[←hr]
  exact zOT (zIo h3.F) h3.id h3.nds hst rfl
 have hW:(c.ws.any (mgX c.ns.length))=false:=by
  rw[List.any_eq_false]
  intro e he
  rw[zUc (h.wm e he)];simp
 have hD:(c.ds.any fun e=>zAU e.S)=false:=by
  rw[List.any_eq_false]
  intro e he
  obtain⟨d,rfl,hd⟩:=h.dm e he
  simp[zAU,zEW];omega
 rw[zGU (zk.2 (by omega)) (by omega) (by omega) (by omega),hN,hW,hD];rfl
theorem zH2{s:ST}(hs:∀e∈s.log,isE e):∀{rs:List PV},∀e∈(zBK s rs).1.log,isE e:=by
 intro rs
 induction rs generalizing s with
 | nil=>exact hs
 | cons r rs ih=>
  rw[zBK]
  split
  ·refine ih ?_
   unfold zOo
   cases hc:zNs s r.S with
   | none=>simp[ST.no]
   | some o=>
    show ∀e∈o.log,isE e
    unfold zNs at hc
    split at hc
    ·cases hc
    ·unfold zOU at hc
     split at hc
     ·split at hc
      ·cases hc;exact hs
      ·cases hc
     ·split at hc
      ·split at hc
       ·cases hc;exact fun e he=>hs e (List.mem_of_mem_take he)
       ·cases hc
      ·split at hc
       ·split at hc
        ·cases hc
         intro e he
         rcases List.mem_append.1 he with he | he
         ·exact hs e he
         ·exact⟨_,_,List.mem_singleton.1 he⟩
        ·cases hc
       ·cases hc
  ·exact hs
theorem zKY{c:CL}(hT:ClT c)(h:zCw c.ns c.ss c.ws c.ds=true):ClI c:=by
 rw[zCw] at h
 simp only[Bool.and_eq_true,Bool.not_eq_true',zk,leB,decide_eq_true_eq] at h
 obtain⟨⟨⟨⟨⟨h1,h2⟩,h3⟩,h4⟩,h5⟩,h6,h7⟩:=h
 refine⟨by omega,by omega,h2,fun i hi=>?_,by omega,fun e he=>?_,by omega,fun e he=>?_⟩
 ·obtain⟨x,hx,he⟩:=hT.n _ (zb hi)
  obtain⟨b,n,hs⟩:=hT.s _ (zb (by omega:i < c.ss.length))
  have ha:=zEe h2 h5 i hi
  rw[hx,hs,Nat.zero_add] at ha
  rw[atB,Bool.and_eq_true,zK5] at ha
  obtain⟨ha,hr⟩:=ha
  simp only[Bool.and_eq_true,decide_eq_true_eq] at ha
  obtain⟨⟨⟨⟨a1,a2⟩,a3⟩,a4⟩,a5⟩:=ha
  replace a5:n=b.length:=a5
  rw[rcB,zK5] at hr
  simp only[Bool.and_eq_true,decide_eq_true_eq] at hr
  obtain⟨⟨⟨⟨⟨r1,r2⟩,r3⟩,r4⟩,r5⟩,r6⟩:=hr
  replace r1:(yP b).2.2=0:=r1
  replace r3:(yP b).2.1.2=n:=r3
  replace r4:(yP b).1.t=x.term:=r4
  replace r5:(yP b).1.v=x.vote:=r5
  replace r6:eqL ze (yP b).1.log x.log=true:=r6
  subst a5
  have hst:zDz b b.length=true:=a4
  simp only[zDz,Bool.and_eq_true,leB,decide_eq_true_eq] at hst
  refine⟨x,b,hx,hs,zH6 a1,a2,a3,he,by omega,?_⟩
  have hgo:(zBw b).2.1=b.length∧(zBK ST.one (zBw b).1).2=true∧(yP b).1=(zBK ST.one (zBw b).1).1:=by
   unfold yP at r1 r3 ⊢
   split at r1
   ·simp at r1
   ·rename_i h8
    rw[if_neg h8] at r3 ⊢
    split at r1
    ·rename_i h9
     rw[if_pos h9] at r3 ⊢
     have hq:((zBw b).2.1:Int)=b.length:=r3
     exact⟨by omega,h9,rfl⟩
    ·simp at r1
  have hl:(yP b).1.log=x.log:=by
   refine zEp ?_ he r6
   rw[hgo.2.2]
   exact zH2 (by simp[ST.one])
  refine⟨hgo.1,Prod.ext ?_ hgo.2.1⟩
  rw[←hgo.2.2]
  show(yP b).1=zD0 x
  cases hq:(yP b).1 with
  | mk t v l=>rw[hq] at r4 r5 hl;simp only at r4 r5 hl;rw[r4,r5,hl];rfl
 ·obtain⟨m,rfl,hm⟩:=hT.m e he
  have:=List.any_eq_false.1 h6 _ he
  have hX:mgX c.ns.length m.pv=false:=by simpa using this
  rw[mgX,zMS] at hX
  simp only[Bool.or_eq_false_iff,Bool.not_eq_false',decide_eq_false_iff_not] at hX
  exact⟨m,rfl,hX.1.1,by omega,by omega,hm⟩
 ·obtain⟨d,rfl⟩:=hT.d e he
  have:=List.any_eq_false.1 h7 _ he
  exact⟨d,rfl,by simp[zAU,zEW] at this;omega⟩
end
section
variable [zS]
def zLM:CA:=⟨2,0,0,0,[]⟩
def zCq:Nat→CL→CL
 | 0,c=>c
 | k+1,c=>if c.ws.length=0 then c else zCq k (zAS c zLM).1
theorem zJb{k:Nat}{c:CL}(h:c.ws.length=0):zCq k c=c:=by
 cases k with
 | zero=>rfl
 | succ k=>rw[zCq,if_pos h]
theorem zJa{k:Nat}{c:CL}(h:¬c.ws.length=0):zCq (k+1) c=zCq k (zAS c zLM).1:=by rw[zCq,if_neg h]
end
section
variable [zS]
def zXt(e:PV):Prop:=(nth e.A 6).L.length≤1048576∧(nth e.A 10).L.length≤1048576∧(nth e.A 11).L.length≤1048576∧(nth e.A 12).L.length≤1048576
def zFe(v:List PV):Prop:=((nth v 0).L.length≤1048576∧∀e∈(nth v 0).L,zXt e)∧(nth v 1).L.length≤1048576∧((nth v 2).L.length≤1048576∧∀e∈(nth v 2).L,(nth e.A 8).L.length≤1048576)∧(nth v 3).L.length≤1048576
end
section
variable [zS]
theorem Sm.clu{c:CL}(h:Sm c):zFe [.list c.ns,.list c.ss,.list c.ws,.list c.ds]:=by
 have nl:=h.nl;have sl:=h.sl;have wl:=h.wl;have dl:=h.dl
 refine⟨⟨by simp only[zE,zAA];omega,fun e he=>?_⟩,by simp only[zE,zF,zAA];omega,⟨by simp only[zE,zF,zAA];omega,fun e he=>?_⟩,by simp only[zE,zF,zAA];omega⟩
 ·obtain⟨a,b,c,d⟩:=h.n e he
  exact⟨by omega,by omega,by omega,by omega⟩
 ·have:=h.w e he;omega
theorem zH9{x:ND}(h1:x.log.length≤5000)(h2:x.vs.length≤5000)(h3:x.nx.length≤5000)(h4:x.ms.length≤5000):zWR x.pv:=⟨h1,h2,h3,h4⟩
theorem zW1{x:ND}(h:NdF x):zWR x.pv:=by
 have n1:=h.n1;have n5:=h.n5;have l6:=h.l6;have nx:=h.nx;have ms:=h.ms
 have:=zJD h.vo (by omega)
 exact zH9 (by omega) (by omega) (by omega) (by omega)
theorem ClI.sm{c:CL}(h:ClI c):Sm c:=by
 have n5:=h.n5;have sl:=h.sl;have wl:=h.wl;have dl:=h.dl
 refine⟨by omega,fun e he=>?_,by omega,by omega,fun e he=>h.es he,by omega⟩
 obtain⟨i,hi,rfl⟩:=List.getElem_of_mem he
 obtain⟨x,b,h1,_,h3⟩:=h.nd i hi
 have:c.ns[i]=x.pv:=by rw[←h1,zHX hi]
 rw[this]
 exact zW1 h3.F
theorem zHh{ws sent:List PV}{e:PV}(h:e∈zLn ws sent):e∈ws∨e∈sent:=by
 rcases List.mem_append.1 h with h | h
 ·exact .inl h
 ·exact .inr (List.mem_of_mem_take h)
theorem zUN{l:List PV}{i:Nat}{x e:PV}(h:e∈l.set i x):e=x∨e∈l:=by
 rcases List.mem_or_eq_of_mem_set h with h | h
 ·exact .inr h
 ·exact .inl h
theorem zag{c:CL}(h:ClI c){x:ND}{sent:List PV}(hx:zWR x.pv)(hl:x.log.length≤1000)(hs:∀e∈sent,(nth e.A 8).L.length≤5000):Sm (zKm c x sent).1:=by
 have hS:=h.sm
 unfold zKm
 split
 ·refine⟨by simpa using hS.nl,fun e he=>?_,by simpa using hS.sl,?_,fun e he=>?_,?_⟩
  ·rcases zUN he with rfl | he
   ·exact hx
   ·exact hS.n e he
  ·have:=h.wl
   show(zLn c.ws sent).length≤5000
   simp only[zLn,List.length_append,List.length_take];omega
  ·rcases zHh he with he | he
   ·exact hS.w e he
   ·exact hs e he
  ·have:=h.dl
   show(zFi c.ds x.log x.com).length≤5000
   simp only[zFi,List.length_append,List.length_map,List.length_drop,List.length_take];omega
 ·exact hS
theorem zNG(n:ND):∀k:Nat,∀e∈zAx n k,(nth e.A 8).L.length≤n.log.length
 | 0,e,he=>by simp[zAx] at he
 | k+1,e,he=>by
  rw[zAx] at he
  rcases List.mem_append.1 he with he | he
  ·exact zNG n k e he
  ·split at he
   ·simp at he
   ·rw[List.mem_singleton.1 he]
    show(n.log.drop ((nth n.nx ((k:Int)).toNat).I.toNat - 1)).length≤n.log.length
    rw[List.length_drop];omega
theorem zRF(n:ND):∀k:Nat,∀e∈zAl n k,(nth e.A 8).L.length≤0
 | 0,e,he=>by simp[zAl] at he
 | k+1,e,he=>by
  rw[zAl] at he
  rcases List.mem_append.1 he with he | he
  ·exact zRF n k e he
  ·split at he
   ·simp at he
   ·rw[List.mem_singleton.1 he]
    exact Nat.le_refl _
theorem za6{n:ND}{d:Int}(h:NdF n):∀e∈(zBD n d).2,(nth e.A 8).L.length≤5000:=by
 have l6:=h.l6
 unfold zBD
 split
 ·split
  ·simp
  ·intro e he
   have:=zNG _ _ e he
   have e1:({ n with ela:=0 }:ND).log=n.log:=rfl
   rw[e1] at this
   omega
 ·split
  ·simp
  ·unfold zEH
   split
   ·intro e he
    have:=zNG _ _ e he
    have e1:(zCm (zBf n d)).log=yq (n.term+1) n.log:=rfl
    have h2:=(zP7 (n.term+1) n.log).2
    rw[e1] at this
    omega
   ·intro e he
    have:=zRF _ _ e he
    omega
theorem zXT:∀{es:List PV} {s:ST},s.log.length≤60→(zBK s es).1.log.length≤60
 | [],s,h=>h
 | e :: es,s,h=>by
  rw[zBK]
  split
  ·rename_i h1
   refine zXT ?_
   cases hc:zNs s e.S with
   | none=>rw[zT4 hc];simp[ST.no]
   | some o=>
    rw[zQn hc] at h1 ⊢
    exact(ST.facts h1).2.2.2
  ·exact h
theorem rcv_l(b:List UInt8):(yP b).1.log.length≤60:=by
 unfold yP
 split
 ·simp[ST.no]
 ·split
  ·exact zXT (by simp[ST.one])
  ·simp[ST.no]
theorem zeo{c:CL}(h:Sm c){i:Nat}{x:PV}{s:PV}(hx:zWR x):Sm ⟨c.ns.set i x,c.ss.set i s,c.ws,c.ds⟩:=by
 refine⟨by simpa using h.nl,fun e he=>?_,by simpa using h.sl,h.wl,h.w,h.dl⟩
 rcases zUN he with rfl | he
 ·exact hx
 ·exact h.n e he
theorem zet{c:CL}(h:ClI c)(a:CA)(ha:inB a.node 0 (c.ns.length - 1)=true):Sm (zIz c a).1:=by
 have ha:=zk.1 ha
 obtain⟨i,hi⟩:∃i:Nat,a.node=i:=⟨a.node.toNat,by omega⟩
 have hil:i < c.ns.length:=by omega
 have n5:=h.n5
 have hS:=h.sm
 obtain⟨a1,a2,a3,a4⟩:=h.at hil
 unfold zIz
 rw[hi,Int.toNat_natCast]
 split
 ·split
  ·exact hS
  ·refine⟨by simpa using hS.nl,fun e he=>?_,hS.sl,hS.wl,hS.w,hS.dl⟩
   rcases zUN he with rfl | he
   ·exact zW1 (zHW a4.F)
   ·exact hS.n e he
 ·split
  ·exact hS
  ·split
   ·unfold zPD
    rw[Int.toNat_natCast]
    refine zeo hS (zH9 ?_ ?_ ?_ ?_)
    ·exact Nat.le_trans (rcv_l _) (by omega)
    ·show([]:List PV).length≤5000;simp
    ·show(List.replicate _ _).length≤5000
     rw[List.length_replicate];omega
    ·show(List.replicate _ _).length≤5000
     rw[List.length_replicate];omega
   ·split
    ·unfold zCy
     split
     ·exact hS
     ·rename_i hr
      have hr:(zJY (yH c.ns i) a.n).2.2=0:=Decidable.byContradiction hr
      unfold zJY at hr ⊢
      rw[zIo a4.F] at hr ⊢
      simp only[cond_true] at hr ⊢
      cases c2:inB a.n 0 1000000 with
      | false=>rw[c2] at hr;simp at hr
      | true=>
       rw[c2] at hr
       simp only[cond_true] at hr ⊢
       have hd:=zk.1 c2
       cases c3:(yH c.ns i).up with
       | false=>rw[c3] at hr;simp at hr
       | true=>
        have hF:=zPS (d:=a.n) a4.F hd.1 c3
        have l6:=hF.l6
        exact zag h (zW1 hF) (show(zBD (yH c.ns i) a.n).1.log.length≤1000 by omega) (za6 a4.F)
    ·split
     ·exact hS
     ·unfold zCy
      split
      ·exact hS
      ·rename_i hr
       have hr:(zJX (yH c.ns i) a.data).2.2=0:=Decidable.byContradiction hr
       unfold zJX at hr ⊢
       split at hr
       ·simp at hr
       ·rename_i hl
        rw[if_neg hl]
        rw[zIo a4.F] at hr ⊢
        simp only[cond_true] at hr ⊢
        cases c2:inB a.data.length 1 400 with
        | false=>rw[c2] at hr;simp at hr
        | true=>
         rw[c2] at hr
         simp only[cond_true] at hr ⊢
         unfold zHG at hr ⊢
         split at hr
         ·simp at hr
         ·rename_i c3
          rw[if_neg c3]
          split at hr
          ·simp at hr
          ·rename_i c4
           rw[if_neg c4]
           split at hr
           ·simp at hr
           ·rename_i c5
            rw[if_neg c5]
            have l6:=a4.F.l6
            obtain⟨s1,s2,s3,s4⟩:=zW1 a4.F
            have hll:(yG (yH c.ns i) a.data).log.length=(yH c.ns i).log.length+1:=by
             show((yH c.ns i).log++[_]).length=_
             simp
            refine zag h (zH9 (show(yG (yH c.ns i) a.data).log.length≤5000 by omega) s2 s3 s4) (show(yG (yH c.ns i) a.data).log.length≤1000 by omega) fun e he=>?_
            have:=zNG _ _ e he
            omega
theorem zXG{c:CL}(h:ClI c)(a:CA):Sm (zAS c a).1:=by
 by_cases hw:zYK a.kind=true
 ·exact(zNb h a hw).1.sm
 ·unfold zAS
  rw[if_neg hw]
  split
  ·split
   ·exact h.sm
   ·rename_i ha
    exact zet h a (by simpa using ha)
  ·exact h.sm
end
section
variable [zS]
def zAa(es:List PV):Prop:=∀e∈es,0≤e.I∧e.I≤255
theorem yd{es:List PV}(h:∀e∈es,∃n,e=.int .u8 n∧inR .u8 n):zAa es:=by
 intro e he
 obtain⟨n,rfl,hn⟩:=h e he
 simpa[inR,IntKind.min,IntKind.max,IntKind.signed,IntKind.bits,PV.I] using hn
theorem zCY(a b:Int)(ha:0≤a)(hb:0 < b):0≤a.tmod b∧a.tmod b < b:=⟨Int.tmod_nonneg _ ha,Int.tmod_lt_of_pos _ hb⟩
end
section
variable [zS]
def yo:zJ:=⟨[(.rd,.list (.agg [.str,.int .i64]))],[.list (.agg [.str,.int .i64])],true,fun ps=>(nth ps 0).L.length≤1048576,fun ps=>[.list (nth ps 0).L],fun _=>[]⟩
theorem zJn:zh Tryz.prog 124 yo:=by
 refine zP [0,2] [.tmp 2] (zD (zB [])) mixed Tryz.func124 rfl (by decide) rfl (by decide) rfl ?_
 intro ps hT hpre W hW
 simp only[yo,TyA,Ty,Tys] at hT hpre
 obtain⟨_,_,rfl,⟨es,rfl,hes,tes⟩,rfl⟩:=hT
 simp only[zE,zAA] at hpre
 refine hW.vc [] _ _ ?_
 simp[-List.getD_eq_getElem?_getD,yo]
 omega
def zL:zJ:=⟨[(.rd,.agg [.list (.agg [.int .i64,.int .i64,.int .i64,.int .i64,.int .i64,.bool,.list (.agg [.int .i64,.str]),.int .i64,.int .i64,.int .i64,.list (.int .i64),.list (.int .i64),.list (.int .i64)]),.list (.agg [.str,.int .i64]),.list (.agg [.int .i64,.int .i64,.int .i64,.int .i64,.int .i64,.int .i64,.int .i64,.bool,.list (.agg [.int .i64,.str])]),.list .str])],[.agg [.list (.agg [.int .i64,.int .i64,.int .i64,.int .i64,.int .i64,.bool,.list (.agg [.int .i64,.str]),.int .i64,.int .i64,.int .i64,.list (.int .i64),.list (.int .i64),.list (.int .i64)]),.list (.agg [.str,.int .i64]),.list (.agg [.int .i64,.int .i64,.int .i64,.int .i64,.int .i64,.int .i64,.int .i64,.bool,.list (.agg [.int .i64,.str])]),.list .str]],true,fun ps=>zFe (nth ps 0).A,fun ps=>[nth ps 0],fun _=>[]⟩
set_option maxHeartbeats 2000000 in
theorem zFM:zh Tryz.prog 76 zL:=by
 refine zP [0,1,2,3,5,7,16,17,18,31,32,33] [.cell 2 29] (zA (cs:=[]) zHA (zA (cs:=[]) zGt (zA (cs:=[]) zNV (zA (cs:=[]) zJn (zD (zB [])))))) mixed Tryz.func76 rfl (by decide) rfl (by decide) rfl ?_
 intro ps hT hpre W hW
 simp only[zL,TyA,Ty,Tys] at hT hpre
 obtain⟨_,_,rfl,⟨_,rfl,_,_,rfl,⟨ns,rfl,hns,tns⟩,_,_,rfl,⟨ss,rfl,hss,tss⟩,_,_,rfl,⟨ws,rfl,hws,tws⟩,_,_,rfl,⟨ds,rfl,hds,tds⟩,rfl⟩,rfl⟩:=hT
 simp only[zE,zF,zBE,zAA,zFe] at hpre
 obtain⟨⟨p1,p2⟩,p3,⟨p4,p5⟩,p6⟩:=hpre
 refine hW.vc [] _ _ ?_
 simp[-List.getD_eq_getElem?_getD,zL,yo,zAw,yy,z6,zj]
 refine hW.cutS [_] _ _ [.nb 3 29 [.list (.agg [.int .i64,.int .i64,.int .i64,.int .i64,.int .i64,.bool,.list (.agg [.int .i64,.str]),.int .i64,.int .i64,.int .i64,.list (.int .i64),.list (.int .i64),.list (.int .i64)]),.list (.agg [.str,.int .i64]),.list (.agg [.int .i64,.int .i64,.int .i64,.int .i64,.int .i64,.int .i64,.int .i64,.bool,.list (.agg [.int .i64,.str])]),.list .str]] (fun ys=>ys=[.agg [.list [],.list ss,.list [],.list ds]]) ?_ ?_
 ·refine hW.vc [(1,[8],tkN [0,1,3,4] (.alt 2 (.alt 5 (tkN [6] (alN [7,8] .done)) (alN [7,5] (tkN [6] (alS 8 .done)))) (alN [7,2,5] (tkN [6] (alS 8 .done)))))] _ _ ?_
  simp[-List.getD_eq_getElem?_getD,zL,yo,zAw,yy,z6,zj]
  exact⟨by decide +kernel,p3,p6⟩
 rintro _ rfl
 refine hW.vc [(1,[8],tkN [0,1,3,4] (.alt 2 (.alt 5 (tkN [6] (alN [7,8] .done)) (alN [7,5] (tkN [6] (alS 8 .done)))) (alN [7,2,5] (tkN [6] (alS 8 .done))))),(5,[5,7],tkN [0,1,2] (alN [3,4,5] (tkN [6] (alS 7 .done)))),(10,[5,7],tkN [0,1,2] (alN [3,4,5] (tkN [6] (alS 7 .done))))] _ _ ?_
 simp[-List.getD_eq_getElem?_getD,zL,yo,zAw,yy,z6,zj]
 intro _
 refine hW.loopS _ _ _ [.bx 3 [.list (.agg [.int .i64,.int .i64,.int .i64,.int .i64,.int .i64,.bool,.list (.agg [.int .i64,.str]),.int .i64,.int .i64,.int .i64,.list (.int .i64),.list (.int .i64),.list (.int .i64)]),.list (.agg [.str,.int .i64]),.list (.agg [.int .i64,.int .i64,.int .i64,.int .i64,.int .i64,.int .i64,.int .i64,.bool,.list (.agg [.int .i64,.str])]),.list .str],.sl 18 .dp (.int .i64)] (fun ys=>∃i:Nat,ys=[.agg [.list (ns.take i),.list ss,.list [],.list ds],.int .i64 i]∧i≤ns.length) (fun ys=>ns.length - (nth ys 1).I.toNat) ?_ ?_
 ·simp[-List.getD_eq_getElem?_getD,zL,yo,zAw,yy,z6,zj]
  exact⟨0,⟨.inl rfl,rfl⟩,by omega⟩
 ·rintro ys ⟨i,rfl,g1⟩
  have w1:IntKind.i64.wrap ((i:Int)+1)=i+1:=zC (by omega)
  refine hW.vc [(1,[8],tkN [0,1,3,4] (.alt 2 (.alt 5 (tkN [6] (alN [7,8] .done)) (alN [7,5] (tkN [6] (alS 8 .done)))) (alN [7,2,5] (tkN [6] (alS 8 .done))))),(5,[5,7],tkN [0,1,2] (alN [3,4,5] (tkN [6] (alS 7 .done)))),(10,[5,7],tkN [0,1,2] (alN [3,4,5] (tkN [6] (alS 7 .done))))] _ _ ?_
  simp[-List.getD_eq_getElem?_getD,zL,yo,zAw,yy,z6,zj,zj,w1]
  refine⟨fun h=>⟨h,?_⟩,fun h _=>?_⟩
  ·clear hW
   intros
   have hq:=p2 _ (zb h)
   obtain⟨_,he,_,_,rfl,⟨_,rfl,_⟩,_,_,rfl,⟨_,rfl,_⟩,_,_,rfl,⟨_,rfl,_⟩,_,_,rfl,⟨_,rfl,_⟩,_,_,rfl,⟨_,rfl,_⟩,_,_,rfl,⟨_,rfl⟩,_,_,rfl,⟨_,rfl,_,_⟩,_,_,rfl,⟨_,rfl,_⟩,_,_,rfl,⟨_,rfl,_⟩,_,_,rfl,⟨_,rfl,_⟩,_,_,rfl,⟨_,rfl,_,_⟩,_,_,rfl,⟨_,rfl,_,_⟩,_,_,rfl,⟨_,rfl,_,_⟩,rfl⟩:=tns _ (zb h)
   refine⟨by decide +kernel,hq,by omega,fun _=>⟨⟨i+1,⟨?_,by omega⟩,by omega⟩,by omega⟩⟩
   rw[zd h,he];rfl
  ·rw[List.take_of_length_le h]
   refine hW.loopS _ _ _ [.bx 3 [.list (.agg [.int .i64,.int .i64,.int .i64,.int .i64,.int .i64,.bool,.list (.agg [.int .i64,.str]),.int .i64,.int .i64,.int .i64,.list (.int .i64),.list (.int .i64),.list (.int .i64)]),.list (.agg [.str,.int .i64]),.list (.agg [.int .i64,.int .i64,.int .i64,.int .i64,.int .i64,.int .i64,.int .i64,.bool,.list (.agg [.int .i64,.str])]),.list .str],.sl 33 .dp (.int .i64)] (fun ys=>∃i:Nat,ys=[.agg [.list ns,.list ss,.list (ws.take i),.list ds],.int .i64 i]∧i≤ws.length) (fun ys=>ws.length - (nth ys 1).I.toNat) ?_ ?_
   ·simp[-List.getD_eq_getElem?_getD,zL,yo,zAw,yy,z6,zj]
    exact⟨0,⟨.inl rfl,rfl⟩,by omega⟩
   ·rintro ys ⟨i,rfl,g1⟩
    have w1:IntKind.i64.wrap ((i:Int)+1)=i+1:=zC (by omega)
    refine hW.vc [(1,[8],tkN [0,1,3,4] (.alt 2 (.alt 5 (tkN [6] (alN [7,8] .done)) (alN [7,5] (tkN [6] (alS 8 .done)))) (alN [7,2,5] (tkN [6] (alS 8 .done))))),(5,[5,7],tkN [0,1,2] (alN [3,4,5] (tkN [6] (alS 7 .done)))),(10,[5,7],tkN [0,1,2] (alN [3,4,5] (tkN [6] (alS 7 .done))))] _ _ ?_
    simp[-List.getD_eq_getElem?_getD,zL,yo,zAw,yy,z6,zj,w1]
    refine⟨fun h=>⟨h,?_⟩,fun h=>?_⟩
    ·clear hW
     intros
     have hq:=p5 _ (zb h)
     obtain⟨_,he,_,_,rfl,⟨_,rfl,_⟩,_,_,rfl,⟨_,rfl,_⟩,_,_,rfl,⟨_,rfl,_⟩,_,_,rfl,⟨_,rfl,_⟩,_,_,rfl,⟨_,rfl,_⟩,_,_,rfl,⟨_,rfl,_⟩,_,_,rfl,⟨_,rfl,_⟩,_,_,rfl,⟨_,rfl⟩,_,_,rfl,⟨_,rfl,_,_⟩,rfl⟩:=tws _ (zb h)
     refine⟨by decide +kernel,hq,by omega,fun _=>⟨⟨i+1,⟨?_,by omega⟩,by omega⟩,by omega⟩⟩
     rw[zd h,he];rfl
    ·exact List.take_of_length_le h
end
section
variable [zS]
theorem zP1{n:Int}{e:PV}(h:(mgB (yk e.A)=false∨n≤(nth e.A 2).I)∨n≤(nth e.A 1).I):mgX n e=true:=by
 unfold mgX
 rcases h with (h | h) | h
 ·simp[h]
 ·have:decide (n≤(yk e.A).to)=true:=decide_eq_true h
  simp[this]
 ·have:decide (n≤(yk e.A).frm)=true:=decide_eq_true h
  simp[this]
theorem zMT{n:Int}{e:PV}(h1:mgB (yk e.A)=true)(h2:(nth e.A 2).I < n)(h3:(nth e.A 1).I < n):mgX n e=false:=by
 have a2:decide (n≤(yk e.A).to)=false:=decide_eq_false (by show ¬n≤(nth e.A 2).I;omega)
 have a3:decide (n≤(yk e.A).frm)=false:=decide_eq_false (by show ¬n≤(nth e.A 1).I;omega)
 simp[mgX,h1,a2,a3]
theorem zL6{b y r d:Bool}{n:Int}{e:PV}(hC:b=(!y&&d))(k:y=(mgX n e || r))(h:(mgB (yk e.A)=false∨n≤(nth e.A 2).I)∨n≤(nth e.A 1).I):b=false:=by
 rw[hC,k,zP1 h];rfl
theorem zL7{y r:Bool}{n:Int}{e:PV}(k:y=(mgX n e || r))(h1:mgB (yk e.A)=true)(h2:(nth e.A 2).I < n)(h3:(nth e.A 1).I < n):y=r:=by
 rw[k,zMT h1 h2 h3];rfl
theorem zMu{b y z r:Bool}{e:PV}(hC:b=(!y&&!z))(k:z=(zAU e.S || r))(h:400 < (e.S.length:Int)):b=false:=by
 have:zAU e.S=true:=decide_eq_true (by omega)
 rw[hC,k,this];simp
theorem zMv{z r:Bool}{e:PV}(k:z=(zAU e.S || r))(h:(e.S.length:Int)≤400):z=r:=by
 have:zAU e.S=false:=decide_eq_false (by omega)
 rw[k,this];rfl
theorem zb3{cnt:Int}{i:Nat}{n s:PV}(h:(nth n.A 0).I=i→¬(nth n.A 1).I=cnt):atB cnt i n s=false:=by
 by_cases q:(nth n.A 0).I=i
 ·exact zVA (.inl (.inl (.inl (.inr (h q)))))
 ·exact zVA (.inl (.inl (.inl (.inl q))))
theorem zbL{n s:PV}(h5:(nth s.A 1).I=(nth s.A 0).S.length)(h:(zEO (nth s.A 0).S (nth s.A 1).I).2.2=0→¬(zEO (nth s.A 0).S (nth s.A 1).I).2.1.2=(nth s.A 1).I):rcB n s=false:=by
 by_cases q:(zEO (nth s.A 0).S (nth s.A 1).I).2.2=0
 ·exact zUX h5 (.inl (.inr (h q)))
 ·exact zUX h5 (.inl (.inl q))
def z7:zJ:=zI
set_option maxHeartbeats 0 in
theorem zFa : zh Tryz.prog 70 z7 := by
  refine zP [0, 1, 2, 3, 4, 5, 6, 7, 8, 9, 10] [.tmp 2] (zA (cs := []) zEg (zA (cs := []) zIJ (zA (cs := []) zGs (zA (cs := []) zHJ (zA (cs := []) zIQ (zA (cs := []) zLB (zA (cs := []) zFp (zD (zB []))))))))) mixed Tryz.func70 rfl (by decide) rfl (by decide) rfl ?_
  intro ps hT hpre W hW
  simp only [z7, TyA, Ty, Tys] at hT hpre
  simp only [zI, TyA, Ty, Tys] at hT
  obtain ⟨_, _, rfl, ⟨_, rfl, _, _, rfl, ⟨ns, rfl, hns, tns⟩, _, _, rfl, ⟨ss, rfl, hss, tss⟩, _, _, rfl, ⟨ws, rfl, hws, tws⟩, _, _, rfl, ⟨ds, rfl, hds, tds⟩, rfl⟩, rfl⟩ := hT
  refine hW.vc [(7, [], tkN [0,1,2,3,4,5,6,7,8,9,10,11,12,13,14,15,16,17,18,19,20,21,22,23] (alS 24 (tkN [25,26,27,28,29,30,31,32] (alS 33 (tkN [34,35,36,37,38,39,40,41,42,43,44,45,46,47,48,49,50,51] .done))))), (10, [], tkN [0,1,2,3,4,5,6,7,8,9,10,11,12,13,14,15,16,17,18,19] (alN [20,21] (tkN [22,23] .done)))] _ _ ?_
  simp [-List.getD_eq_getElem?_getD, z7, yC, yl, yY, yE, zc, yX, zr, zI, zo, zW, zY, zT, zI, zo, zW, zY]
  refine fun _ _ _ _ => ⟨fun h1 => zFd h1, fun h1 h2 h3 h4 => ?_⟩
  have hC := zGU h1 h2 h3 h4
  refine hW.loopS _ _ _ [.sl 4 .dp (.int .i64)] (fun ys => ∃ i : Nat, ys = [.int .i64 i] ∧ i ≤ ns.length ∧ nsB ns.length 0 ns ss = nsB ns.length i (ns.drop i) (ss.drop i)) (fun ys => ns.length - (nth ys 0).I.toNat) ?_ ?_
  · simp [-List.getD_eq_getElem?_getD, z7, yC, yl, yY, yE, zc, yX, zr, zI, zo, zW, zY]
    exact ⟨0, rfl, by simp, by simp⟩
  · rintro ys ⟨i, rfl, h5, h6⟩
    refine hW.vc [(7, [], tkN [0,1,2,3,4,5,6,7,8,9,10,11,12,13,14,15,16,17,18,19,20,21,22,23] (alS 24 (tkN [25,26,27,28,29,30,31,32] (alS 33 (tkN [34,35,36,37,38,39,40,41,42,43,44,45,46,47,48,49,50,51] .done))))), (10, [], tkN [0,1,2,3,4,5,6,7,8,9,10,11,12,13,14,15,16,17,18,19] (alN [20,21] (tkN [22,23] .done)))] _ _ ?_
    simp [-List.getD_eq_getElem?_getD, z7, yC, yl, yY, yE, zc, yX, zr, zI, zo, zW, zY, zF3, zT, zI, zo, zW, zY]
    refine ⟨fun h7 => ?_, fun h7 => ?_⟩
    · have h8 : i < ss.length := by omega
      rw [zH4 h7 h8] at h6
      clear hW
      repeat' (first | apply And.intro | intro _)
      all_goals first
        | omega
        | decide +kernel
        | assumption
        | exact zCt (by rw [h6, zVA (by assumption), Bool.false_and])
        | exact zCt (by rw [h6, zb3 (by assumption), Bool.false_and])
        | exact zCt (by rw [h6, zOT (by assumption) (by assumption) (by assumption) (by assumption) (by assumption), zbL (by assumption) (by assumption), Bool.false_and])
        | (have hq : zDz (nth (nth ss i).A 0).S (nth (nth ss i).A 1).I = true := by assumption
           simp only [zDz, Bool.and_eq_true, leB, decide_eq_true_eq] at hq
           omega)
        | exact zCt (by rw [h6, zOT (by assumption) (by assumption) (by assumption) (by assumption) (by assumption), zUX (by assumption) (by assumption), Bool.false_and])
        | (rw [zOT (by assumption) (by assumption) (by assumption) (by assumption) (by assumption), zbM (by assumption) (by assumption) (by assumption) (by assumption) (by assumption) (by assumption), Bool.true_and] at h6
           rw [zC (by omega)]
           exact ⟨i + 1, by omega, by omega, h6⟩)
        | (rw [zC (by omega)];omega)
        | trace_state
    · rw [List.drop_eq_nil_of_le h7] at h6
      have h6 : nsB ns.length 0 ns ss = true := h6
      rw [h6, Bool.true_and] at hC
      refine hW.loopS _ _ _ [.sl 8 .dp (.int .i64)] (fun ys => ∃ j : Nat, ys = [.int .i64 j] ∧ j ≤ ws.length ∧ ws.any (mgX ns.length) = (ws.drop j).any (mgX ns.length)) (fun ys => ws.length - (nth ys 0).I.toNat) ?_ ?_
      · simp [-List.getD_eq_getElem?_getD, z7, yC, yl, yY, yE, zc, yX, zr, zI, zo, zW, zY]
        exact ⟨0, rfl, by simp, by simp⟩
      · rintro ys ⟨j, rfl, k1, k2⟩
        refine hW.vc [(7, [], tkN [0,1,2,3,4,5,6,7,8,9,10,11,12,13,14,15,16,17,18,19,20,21,22,23] (alS 24 (tkN [25,26,27,28,29,30,31,32] (alS 33 (tkN [34,35,36,37,38,39,40,41,42,43,44,45,46,47,48,49,50,51] .done))))), (10, [], tkN [0,1,2,3,4,5,6,7,8,9,10,11,12,13,14,15,16,17,18,19] (alN [20,21] (tkN [22,23] .done)))] _ _ ?_
        simp [-List.getD_eq_getElem?_getD, z7, yC, yl, yY, yE, zc, yX, zr, zI, zo, zW, zY, zT, zI, zo, zW, zY, zRW]
        refine fun _ => ⟨fun k3 => ?_, fun k3 => ?_⟩
        · clear hW
          rw [zG k3, List.any_cons] at k2
          repeat' (first | apply And.intro | intro _)
          all_goals first
            | omega
            | decide +kernel
            | assumption
            | exact zL6 hC k2 (by assumption)
            | (rw [zC (by omega)]
               exact ⟨j + 1, by omega, by omega, zL7 k2 (by assumption) (by assumption) (by assumption)⟩)
            | (rw [zC (by omega)];omega)
            | trace_state
        · refine hW.loopS _ _ _ [.sl 10 .dp (.int .i64)] (fun ys => ∃ j : Nat, ys = [.int .i64 j] ∧ j ≤ ds.length ∧ (ds.any fun e => zAU e.S) = (ds.drop j).any fun e => zAU e.S) (fun ys => ds.length - (nth ys 0).I.toNat) ?_ ?_
          · simp [-List.getD_eq_getElem?_getD, z7, yC, yl, yY, yE, zc, yX, zr, zI, zo, zW, zY]
            exact ⟨0, rfl, by simp, by simp⟩
          · rintro ys ⟨j', rfl, k4, k5⟩
            refine hW.vc [(7, [], tkN [0,1,2,3,4,5,6,7,8,9,10,11,12,13,14,15,16,17,18,19,20,21,22,23] (alS 24 (tkN [25,26,27,28,29,30,31,32] (alS 33 (tkN [34,35,36,37,38,39,40,41,42,43,44,45,46,47,48,49,50,51] .done))))), (10, [], tkN [0,1,2,3,4,5,6,7,8,9,10,11,12,13,14,15,16,17,18,19] (alN [20,21] (tkN [22,23] .done)))] _ _ ?_
            simp [-List.getD_eq_getElem?_getD, z7, yC, yl, yY, yE, zc, yX, zr, zI, zo, zW, zY, zT, zI, zo, zW, zY]
            clear hW
            rw [List.drop_eq_nil_of_le k3] at k2
            refine fun _ => ⟨fun k6 => ?_, fun k6 => ?_⟩
            · rw [zG k6, List.any_cons] at k5
              repeat' (first | apply And.intro | intro _)
              all_goals first
                | omega
                | decide +kernel
                | assumption
                | exact zMu hC k5 (by assumption)
                | (rw [zC (by omega)]
                   exact ⟨j' + 1, by omega, by omega, zMv k5 (by assumption)⟩)
                | (rw [zC (by omega)];omega)
                | trace_state
            · rw [List.drop_eq_nil_of_le k6] at k5
              rw [hC, k2, k5];rfl
end
section
variable [zS]
def ya:zJ:=zL
set_option maxHeartbeats 2000000 in
theorem zG9:zh Tryz.prog 48 ya:=by
 refine zP [0,1,2,3,4,5,6,7] [.cell 2 29] (zA (cs:=[]) zI2 (zD (zB []))) mixed Tryz.func48 rfl (by decide) rfl (by decide) rfl ?_
 intro ps hT hpre W hW
 simp only[ya,TyA,Ty,Tys] at hT hpre
 simp only[zL,TyA,Ty,Tys] at hT hpre
 obtain⟨_,_,rfl,⟨_,rfl,_,_,rfl,⟨ns,rfl,hns,tns⟩,_,_,rfl,⟨ss,rfl,hss,tss⟩,_,_,rfl,⟨ws,rfl,hws,tws⟩,_,_,rfl,⟨ds,rfl,hds,tds⟩,rfl⟩,rfl⟩:=hT
 simp only[zE,zF,zBE,zAA,zFe] at hpre
 obtain⟨⟨p1,p2⟩,p3,⟨p4,p5⟩,p6⟩:=hpre
 refine hW.vc [] _ _ ?_
 simp[-List.getD_eq_getElem?_getD,ya,zAz,zL,zj,zj]
 refine hW.loopS _ _ _ [.sl 3 .dp (.list (.agg [.int .i64,.int .i64,.int .i64,.int .i64,.int .i64,.bool,.list (.agg [.int .i64,.str]),.int .i64,.int .i64,.int .i64,.list (.int .i64),.list (.int .i64),.list (.int .i64)])),.sl 4 .dp (.int .i64)] (fun ys=>∃i:Nat,ys=[.list (ns.take i),.int .i64 i]∧i≤ns.length) (fun ys=>ns.length - (nth ys 1).I.toNat) ?_ ?_
 ·simp[-List.getD_eq_getElem?_getD,ya,zAz,zL,zj]
  exact⟨0,⟨.inl rfl,rfl⟩,by omega⟩
 ·rintro ys ⟨i,rfl,g1⟩
  have w1:IntKind.i64.wrap ((i:Int)+1)=i+1:=zC (by omega)
  refine hW.vc [] _ _ ?_
  simp[-List.getD_eq_getElem?_getD,ya,zAz,zL,zj,zj,w1]
  refine fun _=>⟨fun h=>⟨h,?_⟩,fun h=>⟨by omega,?_⟩⟩
  ·clear hW
   intros
   have hq:=p2 _ (zb h)
   obtain⟨_,he,_,_,rfl,⟨_,rfl,_⟩,_,_,rfl,⟨_,rfl,_⟩,_,_,rfl,⟨_,rfl,_⟩,_,_,rfl,⟨_,rfl,_⟩,_,_,rfl,⟨_,rfl,_⟩,_,_,rfl,⟨_,rfl⟩,_,_,rfl,⟨_,rfl,_,_⟩,_,_,rfl,⟨_,rfl,_⟩,_,_,rfl,⟨_,rfl,_⟩,_,_,rfl,⟨_,rfl,_⟩,_,_,rfl,⟨_,rfl,_,_⟩,_,_,rfl,⟨_,rfl,_,_⟩,_,_,rfl,⟨_,rfl,_,_⟩,rfl⟩:=tns _ (zb h)
   refine⟨hq,by omega,fun _=>⟨⟨i+1,⟨?_,by omega⟩,by omega⟩,by omega⟩⟩
   rw[zd h,he];rfl
  ·rw[List.take_of_length_le h]
   refine hW.loopS _ _ _ [.sl 5 .dp (.list (.agg [.int .i64,.int .i64,.int .i64,.int .i64,.int .i64,.int .i64,.int .i64,.bool,.list (.agg [.int .i64,.str])])),.sl 6 .dp (.int .i64)] (fun ys=>∃i:Nat,ys=[.list (ws.take i),.int .i64 i]∧i≤ws.length) (fun ys=>ws.length - (nth ys 1).I.toNat) ?_ ?_
   ·simp[-List.getD_eq_getElem?_getD,ya,zAz,zL,zj]
    exact⟨0,⟨.inl rfl,rfl⟩,by omega⟩
   ·rintro ys ⟨i,rfl,g1⟩
    have w1:IntKind.i64.wrap ((i:Int)+1)=i+1:=zC (by omega)
    refine hW.vc [] _ _ ?_
    simp[-List.getD_eq_getElem?_getD,ya,zAz,zL,zj,w1]
    refine fun _=>⟨fun h=>⟨h,?_⟩,fun h=>⟨by omega,List.take_of_length_le h⟩⟩
    clear hW
    intros
    have hq:=p5 _ (zb h)
    obtain⟨_,he,_,_,rfl,⟨_,rfl,_⟩,_,_,rfl,⟨_,rfl,_⟩,_,_,rfl,⟨_,rfl,_⟩,_,_,rfl,⟨_,rfl,_⟩,_,_,rfl,⟨_,rfl,_⟩,_,_,rfl,⟨_,rfl,_⟩,_,_,rfl,⟨_,rfl,_⟩,_,_,rfl,⟨_,rfl⟩,_,_,rfl,⟨_,rfl,_,_⟩,rfl⟩:=tws _ (zb h)
    refine⟨by omega,by omega,fun _=>⟨⟨i+1,⟨?_,by omega⟩,by omega⟩,by omega⟩⟩
    rw[zd h,he];rfl
end
section
variable [zS]
theorem zEq{l:List PV}(h:∀e∈l,Ty (.agg [.int .i64,.str]) e):∀e∈l,isE e:=by
 intro e he
 have:=h e he
 simp only[Ty,Tys] at this
 obtain⟨_,rfl,_,_,rfl,⟨n,rfl,_⟩,_,_,rfl,⟨s,rfl,_⟩,rfl⟩:=this
 exact⟨n,s,rfl⟩
theorem zGV{ns ss ws ds:List PV}(h1:∀e∈ns,Ty (.agg [.int .i64,.int .i64,.int .i64,.int .i64,.int .i64,.bool,.list (.agg [.int .i64,.str]),.int .i64,.int .i64,.int .i64,.list (.int .i64),.list (.int .i64),.list (.int .i64)]) e)(h2:∀e∈ss,Ty (.agg [.str,.int .i64]) e)(h3:∀e∈ws,Ty (.agg [.int .i64,.int .i64,.int .i64,.int .i64,.int .i64,.int .i64,.int .i64,.bool,.list (.agg [.int .i64,.str])]) e)(h4:∀e∈ds,Ty .str e):ClT ⟨ns,ss,ws,ds⟩:=by
 refine⟨fun e he=>?_,fun e he=>?_,fun e he=>?_,fun e he=>?_⟩
 ·have:=h1 e he
  simp only[Ty,Tys] at this
  obtain⟨_,he,_,_,rfl,⟨_,rfl,_⟩,_,_,rfl,⟨_,rfl,_⟩,_,_,rfl,⟨_,rfl,_⟩,_,_,rfl,⟨_,rfl,_⟩,_,_,rfl,⟨_,rfl,_⟩,_,_,rfl,⟨_,rfl⟩,_,_,rfl,⟨l,rfl,_,tl⟩,_,_,rfl,⟨_,rfl,_⟩,_,_,rfl,⟨_,rfl,_⟩,_,_,rfl,⟨_,rfl,_⟩,_,_,rfl,⟨_,rfl,_,_⟩,_,_,rfl,⟨_,rfl,_,_⟩,_,_,rfl,⟨_,rfl,_,_⟩,rfl⟩:=this
  refine⟨z8 e.A,by rw[he];rfl,?_⟩
  have e1:(z8 e.A).log=l:=by rw[he];rfl
  rw[e1]
  exact zEq fun a ha=>by simp only[Ty,Tys];exact tl a ha
 ·have:=h2 e he
  simp only[Ty,Tys] at this
  obtain⟨_,rfl,_,_,rfl,⟨b,rfl,_⟩,_,_,rfl,⟨n,rfl,_⟩,rfl⟩:=this
  exact⟨b,n,rfl⟩
 ·have:=h3 e he
  simp only[Ty,Tys] at this
  obtain⟨_,he,_,_,rfl,⟨_,rfl,_⟩,_,_,rfl,⟨_,rfl,_⟩,_,_,rfl,⟨_,rfl,_⟩,_,_,rfl,⟨_,rfl,_⟩,_,_,rfl,⟨_,rfl,_⟩,_,_,rfl,⟨_,rfl,_⟩,_,_,rfl,⟨_,rfl,_⟩,_,_,rfl,⟨_,rfl⟩,_,_,rfl,⟨l,rfl,_,tl⟩,rfl⟩:=this
  refine⟨yk e.A,by rw[he];rfl,?_⟩
  have e1:(yk e.A).es=l:=by rw[he];rfl
  rw[e1]
  exact zEq fun a ha=>by simp only[Ty,Tys];exact tl a ha
 ·have:=h4 e he
  simp only[Ty] at this
  obtain⟨b,rfl,_⟩:=this
  exact⟨b,rfl⟩
def csR(c:CL)(a:CA):CL × Int:=cond (zCw c.ns c.ss c.ws c.ds) (zAS c a) (clO,1)
def zCX:zJ:=⟨[(.rd,.agg [.list (.agg [.int .i64,.int .i64,.int .i64,.int .i64,.int .i64,.bool,.list (.agg [.int .i64,.str]),.int .i64,.int .i64,.int .i64,.list (.int .i64),.list (.int .i64),.list (.int .i64)]),.list (.agg [.str,.int .i64]),.list (.agg [.int .i64,.int .i64,.int .i64,.int .i64,.int .i64,.int .i64,.int .i64,.bool,.list (.agg [.int .i64,.str])]),.list .str]),(.rd,.agg [.int .i64,.int .i64,.int .i64,.int .i64,.str])],[.agg [.list (.agg [.int .i64,.int .i64,.int .i64,.int .i64,.int .i64,.bool,.list (.agg [.int .i64,.str]),.int .i64,.int .i64,.int .i64,.list (.int .i64),.list (.int .i64),.list (.int .i64)]),.list (.agg [.str,.int .i64]),.list (.agg [.int .i64,.int .i64,.int .i64,.int .i64,.int .i64,.int .i64,.int .i64,.bool,.list (.agg [.int .i64,.str])]),.list .str],.int .i64],true,fun ps=>zFe (nth ps 0).A,fun ps=>[(csR (zFs (nth ps 0).A) (zDb (nth ps 1).A)).1.pv,.int .i64 (csR (zFs (nth ps 0).A) (zDb (nth ps 1).A)).2],fun _=>[]⟩
set_option maxHeartbeats 2000000 in
theorem zQ3:zh Tryz.prog 28 zCX:=by
 refine zP [0,1,2,3,4,5,6,7] [.cell 4 29,.tmp 5] (zA (cs:=[]) zQG (zA (cs:=[]) zFM (zA (cs:=[]) zBi (zD (zB []))))) mixed Tryz.func28 rfl (by decide) rfl (by decide) rfl ?_
 intro ps hT hpre W hW
 simp only[zCX,TyA,Ty,Tys] at hT hpre
 obtain⟨_,_,rfl,⟨_,rfl,_,_,rfl,⟨ns,rfl,hns,tns⟩,_,_,rfl,⟨ss,rfl,hss,tss⟩,_,_,rfl,⟨ws,rfl,hws,tws⟩,_,_,rfl,⟨ds,rfl,hds,tds⟩,rfl⟩,_,_,rfl,⟨_,rfl,_,_,rfl,⟨ak,rfl,hak⟩,_,_,rfl,⟨an,rfl,han⟩,_,_,rfl,⟨aw,rfl,haw⟩,_,_,rfl,⟨ap,rfl,hap⟩,_,_,rfl,⟨ad,rfl,had⟩,rfl⟩,rfl⟩:=hT
 have hT:=zGV tns tss tws tds
 simp only[zE,zF,zBE] at hpre
 refine hW.vc [] _ _ ?_
 simp[-List.getD_eq_getElem?_getD,zCX,zI,zL,zFC,CL.pv,zBd]
 have csN:zCw ns ss ws ds=false→csR ⟨ns,ss,ws,ds⟩ (zDb [.int .i64 ak,.int .i64 an,.int .i64 aw,.int .i64 ap,.str ad])=(clO,1):=fun h=>by rw[csR,h];rfl
 have csY:zCw ns ss ws ds=true→csR ⟨ns,ss,ws,ds⟩ (zDb [.int .i64 ak,.int .i64 an,.int .i64 aw,.int .i64 ap,.str ad])=zAS ⟨ns,ss,ws,ds⟩ (zDb [.int .i64 ak,.int .i64 an,.int .i64 aw,.int .i64 ap,.str ad]):=fun h=>by rw[csR,h];rfl
 refine⟨fun h=>?_,fun h=>?_⟩
 ·rw[csN h];exact⟨⟨rfl,rfl,rfl,rfl⟩,rfl⟩
 ·have hI:ClI ⟨ns,ss,ws,ds⟩:=zKY hT h
  rw[csY h];exact⟨hpre,hI,⟨rfl,rfl,rfl,rfl⟩,rfl⟩
def zHC:zJ:=zCX
set_option maxHeartbeats 2000000 in
theorem zQ2:zh Tryz.prog 25 zHC:=by
 refine zP [0,1,2,3,4,5,6,7] [.cell 4 29,.tmp 5] (zA (cs:=[]) zG9 (zA (cs:=[]) zFK (zA (cs:=[]) zFa (zD (zB []))))) mixed Tryz.func25 rfl (by decide) rfl (by decide) rfl ?_
 intro ps hT hpre W hW
 simp only[zHC,TyA,Ty,Tys] at hT hpre
 simp only[zCX,TyA,Ty,Tys] at hT hpre
 obtain⟨_,_,rfl,⟨_,rfl,_,_,rfl,⟨ns,rfl,hns,tns⟩,_,_,rfl,⟨ss,rfl,hss,tss⟩,_,_,rfl,⟨ws,rfl,hws,tws⟩,_,_,rfl,⟨ds,rfl,hds,tds⟩,rfl⟩,_,_,rfl,⟨_,rfl,_,_,rfl,⟨ak,rfl,hak⟩,_,_,rfl,⟨an,rfl,han⟩,_,_,rfl,⟨aw,rfl,haw⟩,_,_,rfl,⟨ap,rfl,hap⟩,_,_,rfl,⟨ad,rfl,had⟩,rfl⟩,rfl⟩:=hT
 have hT:=zGV tns tss tws tds
 simp only[zE,zF,zBE] at hpre
 refine hW.vc [] _ _ ?_
 simp[-List.getD_eq_getElem?_getD,zHC,z7,zw,ya,zCX,zI,zL,zCX,zI,zL,CL.pv,zBd]
 have csN:zCw ns ss ws ds=false→csR ⟨ns,ss,ws,ds⟩ (zDb [.int .i64 ak,.int .i64 an,.int .i64 aw,.int .i64 ap,.str ad])=(clO,1):=fun h=>by rw[csR,h];rfl
 have csY:zCw ns ss ws ds=true→csR ⟨ns,ss,ws,ds⟩ (zDb [.int .i64 ak,.int .i64 an,.int .i64 aw,.int .i64 ap,.str ad])=zAS ⟨ns,ss,ws,ds⟩ (zDb [.int .i64 ak,.int .i64 an,.int .i64 aw,.int .i64 ap,.str ad]):=fun h=>by rw[csR,h];rfl
 refine⟨fun h=>?_,fun h=>?_⟩
 ·rw[csN h];exact⟨⟨rfl,rfl,rfl,rfl⟩,rfl⟩
 ·have hI:ClI ⟨ns,ss,ws,ds⟩:=zKY hT h
  rw[csY h];exact⟨hI,(zXG hI _).clu,⟨rfl,rfl,rfl,rfl⟩,rfl⟩
theorem zFY{nodes:Int}(h:1≤nodes∧nodes≤5):zCA nodes nodes.toNat=(yR nodes.toNat).ns∧List.replicate nodes.toNat st0=(yR nodes.toNat).ss:=by
 have e:((nodes.toNat:Nat):Int)=nodes:=by omega
 exact⟨by rw[yR,e],rfl⟩
theorem zGW(e:PV):zDb [.int .i64 (nth e.A 0).I,.int .i64 (nth e.A 1).I,.int .i64 (nth e.A 2).I,.int .i64 (nth e.A 3).I,.str (nth e.A 4).S]=zDb e.A:=rfl
end
section
variable [zS]
def zFv(log:List PV):Nat→List PV
 | 0=>[]
 | k+1=>zFv log k++[.str (nth (nth log k).A 1).S]
end
section
variable [zS]
def yF:zJ:=zM
theorem zD7:zh Tryz.prog 43 yF:=by
 refine zP [0,1,4,5] [.tmp 4] (zD (zB [])) mixed Tryz.func43 rfl (by decide) rfl (by decide) rfl ?_
 intro ps hT hpre W hW
 simp only[yF,TyA,Ty,Tys] at hT hpre
 simp only[zM,TyA,Ty,Tys] at hT
 obtain⟨_,_,rfl,⟨es,rfl,hes,tes⟩,_,_,rfl,⟨es2,rfl,hes2,tes2⟩,rfl⟩:=hT
 refine hW.vc [(6,[],tkN [0,1,2,3,4,5,6,7,8] .done)] _ _ ?_
 simp[-List.getD_eq_getElem?_getD,yF,zM,zM]
 refine fun h1 h2=>⟨fun h3=>zAX (by omega),fun h3=>?_⟩
 refine hW.loopS _ _ _ [.sl 5 .dp (.int .i64)] (fun ys=>∃i:Nat,ys=[.int .i64 i]∧i≤es.length∧eqL (fun x y=>x.S == y.S) es es2=eqL (fun x y=>x.S == y.S) (es.drop i) (es2.drop i)) (fun ys=>es.length - (nth ys 0).I.toNat) ?_ ?_
 ·simp[-List.getD_eq_getElem?_getD,yF,zM]
  exact⟨0,rfl,by simp,by simp⟩
 ·rintro ys ⟨i,rfl,h4,h5⟩
  refine hW.vc [(6,[],tkN [0,1,2,3,4,5,6,7,8] .done)] _ _ ?_
  simp[-List.getD_eq_getElem?_getD,yF,zM]
  refine fun _=>⟨fun h6=>⟨by decide +kernel,h6,fun _=>⟨by omega,fun _=>?_⟩⟩,fun h6=>?_⟩
  ·rw[zG h6,zG (by omega:i < es2.length),eqL] at h5
   rw[zC (by omega)]
   refine⟨fun h7=>by rw[h5];simp[h7],fun h7=>⟨⟨i+1,by omega,by omega,by rw[h5];simp[h7]⟩,by omega⟩⟩
  ·rw[h5,List.drop_eq_nil_of_le h6,List.drop_eq_nil_of_le (by omega)];rfl
def zF0(a b:List PV):Bool:=decide (a.length≤b.length)&&eqL (fun x y=>x.S == y.S) a (b.take a.length)
theorem zOq{a b:List PV}(h:a.length≤b.length):zF0 a b=eqL (fun x y=>x.S == y.S) a (b.take a.length):=by simp[zF0,h]
theorem zFF(a b:List PV):zF0 a (a++b)=true:=by
 rw[zOq (by simp),List.take_left' rfl];exact zKV a
def zFc(l:List PV):List PV:=l.filter fun e=>!(e.S == [])
theorem zSV{es:List PV}{i:Nat}(h:i < es.length)(hn:¬(nth es i).S=[]):zFc (es.take (i+1))=zFc (es.take i)++[nth es i]:=by
 rw[zd h,zFc,List.filter_append]
 congr 1
 simp[hn]
theorem zSW{es:List PV}{i:Nat}(h:i < es.length)(hn:(nth es i).S=[]):zFc (es.take (i+1))=zFc (es.take i):=by
 rw[zd h,zFc,List.filter_append]
 simp[hn,zFc]
def zCE:zJ:=⟨[(.rd,.list .str)],[.list .str],true,fun ps=>(nth ps 0).L.length≤1048576,fun ps=>[.list (zFc (nth ps 0).L)],fun _=>[]⟩
theorem zSN:zh Tryz.prog 82 zCE:=by
 refine zP [0,2,3,5,6,7,8] [.tmp 2] (zD (zB [])) mixed Tryz.func82 rfl (by decide) rfl (by decide) rfl ?_
 intro ps hT hpre W hW
 simp only[zCE,TyA,Ty,Tys] at hT hpre
 obtain⟨_,_,rfl,⟨es,rfl,hes,tes⟩,rfl⟩:=hT
 simp only[zE,zAA] at hpre
 refine hW.vc [] _ _ ?_
 simp[-List.getD_eq_getElem?_getD,zCE]
 intro _
 refine hW.loopS _ _ _ [.sl 3 .dp (.list .str),.sl 8 .dp (.int .i64)] (fun ys=>∃i:Nat,ys=[.list (zFc (es.take i)),.int .i64 i]∧i≤es.length) (fun ys=>es.length - (nth ys 1).I.toNat) ?_ ?_
 ·simp[-List.getD_eq_getElem?_getD,zCE]
  exact⟨0,⟨rfl,rfl⟩,by omega⟩
 ·rintro ys ⟨i,rfl,g1⟩
  have w1:IntKind.i64.wrap ((i:Int)+1)=i+1:=zC (by omega)
  have hl:(zFc (es.take i)).length≤i:=by
   have:=List.length_filter_le (fun e:PV=>!(e.S == [])) (es.take i)
   have h2:(es.take i).length≤i:=by rw[List.length_take];omega
   exact Nat.le_trans this h2
  refine hW.vc [] _ _ ?_
  simp[-List.getD_eq_getElem?_getD,zCE,w1]
  refine⟨fun h=>⟨h,fun _=>⟨fun h2=>⟨by omega,fun _=>⟨⟨i+1,⟨?_,by omega⟩,by omega⟩,by omega⟩⟩,fun h2=>⟨⟨i+1,⟨(zSW h h2).symm,by omega⟩,by omega⟩,by omega⟩⟩⟩,fun h=>by rw[List.take_of_length_le h]⟩
  rw[zSV h h2]
  obtain⟨_,he,_⟩:=tes _ (zb h)
  rw[he];rfl
def ldR(c:CL):List PV × Int:=cond (zCw c.ns c.ss c.ws c.ds) (zFc c.ds,0) ([],1)
def zAu:zJ:=⟨[(.rd,.agg [.list (.agg [.int .i64,.int .i64,.int .i64,.int .i64,.int .i64,.bool,.list (.agg [.int .i64,.str]),.int .i64,.int .i64,.int .i64,.list (.int .i64),.list (.int .i64),.list (.int .i64)]),.list (.agg [.str,.int .i64]),.list (.agg [.int .i64,.int .i64,.int .i64,.int .i64,.int .i64,.int .i64,.int .i64,.bool,.list (.agg [.int .i64,.str])]),.list .str])],[.list .str,.int .i64],true,fun _=>True,fun ps=>[.list (ldR (zFs (nth ps 0).A)).1,.int .i64 (ldR (zFs (nth ps 0).A)).2],fun _=>[]⟩
theorem zJQ:zh Tryz.prog 33 zAu:=by
 refine zP [0,1,2,3] [.tmp 2,.tmp 3] (zA (cs:=[]) zSN (zA (cs:=[]) zBi (zD (zB [])))) mixed Tryz.func33 rfl (by decide) rfl (by decide) rfl ?_
 intro ps hT hpre W hW
 simp only[zAu,TyA,Ty,Tys] at hT hpre
 obtain⟨_,_,rfl,⟨_,rfl,_,_,rfl,⟨ns,rfl,hns,tns⟩,_,_,rfl,⟨ss,rfl,hss,tss⟩,_,_,rfl,⟨ws,rfl,hws,tws⟩,_,_,rfl,⟨ds,rfl,hds,tds⟩,rfl⟩,rfl⟩:=hT
 have hT:=zGV tns tss tws tds
 refine hW.vc [] _ _ ?_
 simp[-List.getD_eq_getElem?_getD,zAu,zI,zCE,zBd]
 refine⟨fun h=>by rw[ldR,h];exact⟨rfl,rfl⟩,fun h=>?_⟩
 have hI:ClI ⟨ns,ss,ws,ds⟩:=zKY hT h
 have dl:ds.length≤60:=hI.dl
 exact⟨by omega,by rw[ldR,h];exact⟨rfl,rfl⟩⟩
def zNr(ns ds:List PV):Nat:=(ns.filter fun e=>zF0 ds (zFv (z8 e.A).log (z8 e.A).log.length)).length
end
section
variable [zS]
def cnB(Q:Nat→Bool):Nat→Nat
 | 0=>0
 | n+1=>cnB Q n+(if Q n=true then 1 else 0)
theorem zIc{P Q:Nat→Bool}:∀{n:Nat},(∀i,i < n→P i=true→Q i=false)→cnB P n+cnB Q n≤n
 | 0,_=>by simp[cnB]
 | n+1,h=>by
  have ih:=zIc (P:=P) (Q:=Q) (n:=n) fun i hi=>h i (by omega)
  have hn:=h n (by omega)
  simp only[cnB]
  cases hp:P n with
  | false=>simp only[Bool.false_eq_true,if_false];split<;>omega
  | true=>rw[hn hp];simp;omega
def Maj(n:Nat)(P:Nat→Prop):Prop:=∃Q:Nat→Bool,n < 2*cnB Q n∧∀i,i < n→Q i=true→P i
theorem Maj.meet{n:Nat}{P R:Nat→Prop}(h:Maj n P)(g:Maj n R):∃i,i < n∧P i∧R i:=by
 obtain⟨Q,q1,q2⟩:=h
 obtain⟨S,s1,s2⟩:=g
 apply Classical.byContradiction
 intro hc
 have:=zIc (P:=Q) (Q:=S) (n:=n) fun i hi hq=>by
  cases hs:S i with
  | false=>rfl
  | true=>exact absurd ⟨i,hi,q2 i hi hq,s2 i hi hs⟩ hc
 omega
theorem Maj.mono{n:Nat}{P R:Nat→Prop}(h:Maj n P)(hi:∀i,i < n→P i→R i):Maj n R:=by
 obtain⟨Q,q1,q2⟩:=h
 exact⟨Q,q1,fun i hl hq=>hi i hl (q2 i hl hq)⟩
def eT(e:PV):Int:=(nth e.A 0).I
def ltm(l:List PV):Int:=zCI l l.length
theorem zMU:ltm []=0:=rfl
theorem zF4{l:List PV}(h:l≠[]):ltm l=eT (nth l (l.length - 1)):=by
 have:0 < l.length:=List.length_pos_iff.2 h
 unfold ltm zCI
 rw[if_neg (by omega)]
 have e:((l.length:Int) - 1).toNat=l.length - 1:=by omega
 rw[e];rfl
def LP(ll:Int→List PV)(l:List PV):Prop:=∀p,p < l.length→l.take (p+1)=(ll (eT (nth l p))).take (p+1)
def zSm(l:List PV):Prop:=∀i j,i≤j→j < l.length→eT (nth l i)≤eT (nth l j)
theorem LP.all{ll:Int→List PV}{l:List PV}(h:LP ll l)(hn:l≠[]):l=(ll (ltm l)).take l.length:=by
 have hp:0 < l.length:=List.length_pos_iff.2 hn
 have:=h (l.length - 1) (by omega)
 rw[show l.length - 1+1=l.length by omega,List.take_length,←zF4 hn] at this
 exact this
theorem LP.take{ll:Int→List PV}{l:List PV}(h:LP ll l)(k:Nat):LP ll (l.take k):=by
 intro p hp
 rw[List.length_take] at hp
 have:=h p (by omega)
 rw[List.take_take,Nat.min_eq_left (by omega),this]
 have e:nth (l.take k) p=nth l p:=by simp[nth,List.getElem?_take,show p < k by omega]
 rw[e]
theorem zF1{l:List PV}{k p:Nat}(h:p < k):nth (l.take k) p=nth l p:=by simp[nth,List.getElem?_take,h]
theorem zBH{a b:List PV}{k m:Nat}(h:a.take k=b.take k)(hm:m≤k):a.take m=b.take m:=by
 have:=congrArg (List.take m) h
 rwa[List.take_take,List.take_take,Nat.min_eq_left hm] at this
theorem yx{a b:List PV}{k p:Nat}(h:a.take k=b.take k)(hp:p < k):nth a p=nth b p:=by
 rw[←zF1 hp,h,zF1 hp]
theorem y8{a b:List PV}{k:Nat}(h:a.take k=b.take k)(hb:k≤b.length):k≤a.length:=by
 have:=congrArg List.length h
 rw[List.length_take,List.length_take] at this
 omega
structure Gh where
 ex:Int→Prop
 who:Int→Nat
 el:Int→List PV
 ll:Int→List PV
 cl:Int→Nat→List PV
 vf:Int→Nat→Int
 vl:Int→Nat→List PV
 ak:Int→Nat→Nat
def UD(c v:List PV):Prop:=ltm v < ltm c∨ltm v=ltm c∧v.length≤c.length
def Dis(G:Gh)(s r:Int)(k:Nat):Prop:=(G.el r).take k≠(G.ll s).take k
def V3(G:Gh)(t:Int)(j:Nat):Prop:=∀s,s < t→∀k,k≤G.ak s j→(G.vl t j).take k=(G.ll s).take k∨∃r,s < r∧r < t∧G.ex r∧Dis G s r k
structure GI (n:Nat) (G:Gh):Prop where
 nex:∀t,¬G.ex t→G.ll t=[]∧G.el t=[]
 pre:∀t,∃r,G.ll t=G.el t++r∧∀e∈r,eT e=t
 elt:∀t,∀e∈G.el t,eT e < t
 lpl:∀t,LP G.ll (G.ll t)
 lpc:∀t c,LP G.ll (G.cl t c)
 clt:∀t c,∀e∈G.cl t c,eT e < t
 lpv:∀t j,LP G.ll (G.vl t j)
 mov:∀t j,zSm (G.vl t j)
 maj:∀t,G.ex t→1≤t∧G.who t < n∧G.el t=G.cl t (G.who t)∧Maj n fun j=>G.vf t j=G.who t∧UD (G.cl t (G.who t)) (G.vl t j)∧V3 G t j
 akl:∀t j,G.ak t j≤(G.ll t).length
structure Cm (n:Nat) (G:Gh) (t:Int) (k:Nat):Prop where
 ex:G.ex t
 k1:1≤k
 kl:k≤(G.ll t).length
 tm:eT (nth (G.ll t) (k - 1))=t
 mj:Maj n fun j=>k≤G.ak t j
theorem GI.el_ll{n:Nat}{G:Gh}(h:GI n G)(t:Int){k:Nat}(hk:k≤(G.el t).length):(G.ll t).take k=(G.el t).take k:=by
 obtain⟨r,hr,_⟩:=h.pre t
 rw[hr,List.take_append_of_le_length hk]
theorem GI.complete{n:Nat}{G:Gh}(h:GI n G){t:Int}{k:Nat}(hc:Cm n G t k):∀(m:Nat) (s:Int),(s - t).toNat=m→t < s→G.ex s→(G.el s).take k=(G.ll t).take k:=by
 intro m
 induction m using Nat.strongRecOn with
 | ind m ih=>
  intro s hm hts hs
  have IH:∀r,t < r→r < s→G.ex r→(G.el r).take k=(G.ll t).take k:=fun r h1 h2 h3=>ih (r - t).toNat (by omega) r rfl h1 h3
  obtain⟨s1,_,he,hM⟩:=h.maj s hs
  obtain⟨j,_,ha,hv,hu,h3⟩:=hc.mj.meet hM
  have hV:(G.vl s j).take k=(G.ll t).take k:=by
   rcases h3 t hts k ha with q | ⟨r,r1,r2,r3,r4⟩
   ·exact q
   ·exact absurd (IH r r1 r2 r3) r4
  have k1:=hc.k1
  have t1:=(h.maj t hc.ex).1
  have hvl:=y8 hV hc.kl
  have hvn:G.vl s j≠[]:=by intro e;rw[e] at hvl;simp at hvl;omega
  have hlt:t≤ltm (G.vl s j):=by
   have h1:=h.mov s j (k - 1) ((G.vl s j).length - 1) (by omega) (by omega)
   rw[←zF4 hvn,yx hV (by omega),hc.tm] at h1
   exact h1
  rw[←he] at hu
  have hen:G.el s≠[]:=by
   intro e
   rw[e] at hu
   rcases hu with q | ⟨q,q2⟩
   ·rw[zMU] at q;omega
   ·simp at q2;exact hvn q2
  have hLe:LP G.ll (G.el s):=by rw[he];exact h.lpc s _
  have hE:=hLe.all hen
  have hel:0 < (G.el s).length:=List.length_pos_iff.2 hen
  have hq:ltm (G.el s) < s:=by rw[zF4 hen];exact h.elt s _ (zb (by omega))
  rcases hu with q | ⟨q,q2⟩
  ·have hex:G.ex (ltm (G.el s)):=Classical.byContradiction fun hne=>by
    have:=(h.nex _ hne).1
    rw[this,List.take_nil] at hE
    exact hen hE
   have hI:=IH (ltm (G.el s)) (by omega) hq hex
   have hk2:=y8 hI hc.kl
   have hlong:(G.el (ltm (G.el s))).length < (G.el s).length:=by
    apply Classical.byContradiction
    intro hn
    have e1:G.el s=(G.el (ltm (G.el s))).take (G.el s).length:=by
     rw[←h.el_ll _ (by omega)];exact hE
    have e2:nth (G.el s) ((G.el s).length - 1)=nth (G.el (ltm (G.el s))) ((G.el s).length - 1):=yx (k:=(G.el s).length) (by rw[List.take_length];exact e1) (by omega)
    have e3:=h.elt (ltm (G.el s)) (nth (G.el (ltm (G.el s))) ((G.el s).length - 1)) (zb (by omega))
    rw[←e2,←zF4 hen] at e3
    omega
   rw[hE,List.take_take,Nat.min_eq_left (by omega),h.el_ll _ hk2]
   exact hI
  ·have hVe:=(h.lpv s j).all hvn
   rw[q] at hVe
   rw[hE,List.take_take,Nat.min_eq_left (by omega),←hV,hVe,List.take_take,Nat.min_eq_left (by omega)]
end
section
variable [zS]
def Kn(n:Nat)(G:Gh)(t:Int)(l:List PV)(k:Nat):Prop:=k=0∨∃s m,s≤t∧Cm n G s m∧k≤m∧l.take k=(G.ll s).take k
structure Vt (G:Gh) (t:Int) (c j:Nat):Prop where
 vf:G.vf t j=c
 ud:UD (G.cl t c) (G.vl t j)
 v3:¬G.ex t→V3 G t j
structure NI (n:Nat) (G:Gh) (i:Nat) (x:ND):Prop where
 lp:LP G.ll x.log
 vt:x.vote=G.vf x.term i
 vn:∀t,x.term < t→G.vf t i=-1
 an:∀t,x.term < t→G.ak t i=0
 ab:∀t k,k≤G.ak t i→x.log.take k=(G.ll t).take k∨∃r,t < r∧r≤x.term∧G.ex r∧Dis G t r k
 kn:Kn n G x.term x.log x.com.toNat
 ld:x.role=2→G.ex x.term∧G.who x.term=i∧x.log=G.ll x.term∧(G.ll x.term).length≤G.ak x.term i∧∀j,j < n→j≠i→(nth x.ms j).I≤G.ak x.term j
 cd:x.role=1→x.log=G.cl x.term i∧(∀v∈x.vs,∃j:Nat,v.I=j∧j < n∧Vt G x.term i j)∧¬(G.ex x.term∧G.who x.term=i)
structure MI (n:Nat) (G:Gh) (m:MG):Prop where
 rq:m.kind=1→m.idx=(G.cl m.term m.frm.toNat).length∧m.lt=ltm (G.cl m.term m.frm.toNat)
 vd:m.kind=2→m.ok=true→Vt G m.term m.to.toNat m.frm.toNat
 ap:m.kind=3→G.ex m.term∧G.who m.term=m.frm.toNat∧0≤m.idx∧m.idx.toNat+m.es.length≤(G.ll m.term).length∧m.es=((G.ll m.term).drop m.idx.toNat).take m.es.length∧m.lt=zCI (G.ll m.term) m.idx∧Kn n G m.term (G.ll m.term) m.com.toNat
 ak:m.kind=4→m.ok=true→m.idx.toNat≤G.ak m.term m.frm.toNat
def zKW(e:PV):PV:=.str (nth e.A 1).S
def DI(n:Nat)(G:Gh)(ds:List PV):Prop:=ds=[]∨∃t k,Cm n G t k∧ds.length≤k∧ds=((G.ll t).take ds.length).map zKW
structure RI (c:CL) (G:Gh):Prop where
 I:ClI c
 R:RtI c
 g:GI c.ns.length G
 nd:∀i,i < c.ns.length→NI c.ns.length G i (yH c.ns i)
 ms:∀e∈c.ws,MI c.ns.length G (yk e.A)∧(yk e.A).term≤(yH c.ns (yk e.A).frm.toNat).term
 vc:∀t j (k:Nat),G.vf t j=k→k < c.ns.length∧t≤(yH c.ns k).term
 vg:∀t j (k:Nat),G.vf t j=k→Vt G t k j
 wt:∀t,G.ex t→t≤(yH c.ns (G.who t)).term
 cd:∀i,i < c.ns.length→(yH c.ns i).com≤c.ds.length
 ds:DI c.ns.length G c.ds
structure Ext (G G':Gh) (i:Nat) (T:Int):Prop where
 ex:∀t,G.ex t→G'.ex t∧G'.who t=G.who t∧G'.el t=G.el t
 new:∀t,G'.ex t→¬G.ex t→G'.who t=i
 ll:∀t,∃r,G'.ll t=G.ll t++r
 llo:∀t,G.ex t→G.who t≠i→G'.ll t=G.ll t
 vo:∀t j,j≠i→G'.vf t j=G.vf t j∧G'.vl t j=G.vl t j∧G'.ak t j=G.ak t j
 vi:∀t,G.vf t i≠-1→G'.vf t i=G.vf t i∧G'.vl t i=G.vl t i
 ai:∀t,G.ak t i≤G'.ak t i
 al:∀t,t < T→G'.ak t i=G.ak t i
 co:∀t j,j≠i→G'.cl t j=G.cl t j
 ci:∀t,t≤T→G'.cl t i=G.cl t i
section
variable {G G':Gh} {i:Nat} {T:Int} {n:Nat}
theorem Ext.ak(h:Ext G G' i T)(t:Int)(j:Nat):G.ak t j≤G'.ak t j:=by
 by_cases e:j=i
 ·rw[e];exact h.ai t
 ·rw[(h.vo t j e).2.2];exact Nat.le_refl _
theorem Ext.cl(h:Ext G G' i T){t:Int}{c:Nat}(hT:c=i→t≤T):G'.cl t c=G.cl t c:=by
 by_cases e:c=i
 ·subst e;exact h.ci t (hT rfl)
 ·exact h.co t c e
end
end
section
variable [zS]
theorem Ext.trans{G G1 G2:Gh}{i:Nat}{T:Int}(h:Ext G G1 i T)(g:Ext G1 G2 i T):Ext G G2 i T:=by
 refine⟨fun t ht=>?_,fun t h2 h0=>?_,fun t=>?_,fun t ht hw=>?_,fun t j hj=>?_,fun t ht=>?_,fun t=>Nat.le_trans (h.ai t) (g.ai t),fun t ht=>by rw[g.al t ht,h.al t ht],fun t j hj=>by rw[g.co t j hj,h.co t j hj],fun t ht=>by rw[g.ci t ht,h.ci t ht]⟩
 ·obtain⟨a1,a2,a3⟩:=h.ex t ht
  obtain⟨b1,b2,b3⟩:=g.ex t a1
  exact⟨b1,by rw[b2,a2],by rw[b3,a3]⟩
 ·by_cases h1:G1.ex t
  ·rw[(g.ex t h1).2.1];exact h.new t h1 h0
  ·exact g.new t h2 h1
 ·obtain⟨r,hr⟩:=h.ll t
  obtain⟨q,hq⟩:=g.ll t
  exact⟨r++q,by rw[hq,hr,List.append_assoc]⟩
 ·obtain⟨a1,a2,a3⟩:=h.ex t ht
  rw[g.llo t a1 (by rw[a2];exact hw),h.llo t ht hw]
 ·obtain⟨a1,a2,a3⟩:=h.vo t j hj
  obtain⟨b1,b2,b3⟩:=g.vo t j hj
  exact⟨by rw[b1,a1],by rw[b2,a2],by rw[b3,a3]⟩
 ·obtain⟨a1,a2⟩:=h.vi t ht
  obtain⟨b1,b2⟩:=g.vi t (by rw[a1];exact ht)
  exact⟨by rw[b1,a1],by rw[b2,a2]⟩
def tmO(c:CL)(i:Nat)(x:ND)(k:Nat):Int:=if k=i then x.term else (yH c.ns k).term
structure Pt (c:CL) (i:Nat) (G G':Gh) (x:ND) (sent:List PV):Prop where
 E:Ext G G' i (yH c.ns i).term
 g:GI c.ns.length G'
 nd:NI c.ns.length G' i x
 t:(yH c.ns i).term≤x.term
 vc:∀t j (k:Nat),G'.vf t j=k→k < c.ns.length∧t≤tmO c i x k
 vg:∀t j (k:Nat),G'.vf t j=k→Vt G' t k j
 wt:∀t,G'.ex t→t≤tmO c i x (G'.who t)
 ms:∀e∈sent,MI c.ns.length G' (yk e.A)∧(yk e.A).frm.toNat=i∧(yk e.A).term≤x.term
end
section
variable [zS]
structure LdI (n:Nat) (G:Gh) (i:Nat) (x:ND):Prop where
 ex:G.ex x.term
 who:G.who x.term=i
 log:x.log=G.ll x.term
 own:(G.ll x.term).length≤G.ak x.term i
 ms:∀j,j < n→j≠i→(nth x.ms j).I≤G.ak x.term j
end
section
variable [zS]
structure Mc (c:CL) (i:Nat) (y:ND) (m:MG):Prop where
 hi:i < c.ns.length
 F:NdF y
 up:y.up=true
 id:y.id=i
 nd:y.nodes=c.ns.length
 rt:y.role≠0→1≤y.term
 mt:m.term≤y.term
 t1:1≤m.term
 to:m.to=i
 f0:0≤m.frm
 f1:m.frm < c.ns.length
 ne:m.frm≠m.to
 i0:0≤m.idx
 ft:m.term≤(yH c.ns m.frm.toNat).term
 k4:1≤m.kind∧m.kind≤4
theorem MI.nil{n:Nat}{G:Gh}{m:MG}(h:m.kind=2∨m.kind=4)(ho:m.ok=false):MI n G m:=
 ⟨fun q=>by omega,fun _ q=>by rw[ho] at q;simp at q,fun q=>by omega,fun _ q=>by rw[ho] at q;simp at q⟩
end
section
variable [zS]
theorem RI.ws{c:CL}{G:Gh}(h:RI c G){ws:List PV}(hI:ClI { c with ws:=ws })(hw:∀e∈ws,e∈c.ws):RI { c with ws:=ws } G:=
 ⟨hI,h.R,h.g,h.nd,fun e he=>h.ms e (hw e he),h.vc,h.vg,h.wt,h.cd,h.ds⟩
theorem RI.holds{c:CL}{G:Gh}(h:RI c G)(hne:c.ds≠[]):Maj c.ns.length fun j=>c.ds.length≤(yH c.ns j).log.length∧((yH c.ns j).log.take c.ds.length).map zKW=c.ds:=by
 rcases h.ds with d | ⟨t,k,d1,d2,d3⟩
 ·exact absurd d hne
 ·have kl:=d1.kl
  refine d1.mj.mono fun j hj hk=>?_
  rcases (h.nd j hj).ab t c.ds.length (by omega) with q | ⟨r,r1,r2,r3,r4⟩
  ·exact⟨y8 q (by omega),by rw[q];exact d3.symm⟩
  ·exfalso
   have:=h.g.complete d1 _ r rfl r1 r3
   exact r4 (zBH this d2)
end
section
variable [zS]
def Grw(c d:CL):Prop:=∃r,d.ds=c.ds++r
theorem Grw.trans{c d e:CL}(h:Grw c d)(g:Grw d e):Grw c e:=by
 obtain⟨r,hr⟩:=h
 obtain⟨s,hs⟩:=g
 exact⟨r++s,by rw[hs,hr,List.append_assoc]⟩
def RX(c:CL):Prop:=∃G,RI c G
theorem zGy{log:List PV}:∀{k:Nat},k≤log.length→zFv log k=(log.take k).map zKW
 | 0,_=>by simp[zFv]
 | k+1,h=>by rw[zFv,zGy (by omega),zd (by omega),List.map_append];rfl
theorem zIe{ns:List PV}{Q:Nat→Bool}{p:PV→Bool}:∀{k:Nat},k≤ns.length→(∀i,i < k→Q i=true→p (nth ns i)=true)→cnB Q k≤((ns.take k).filter p).length
 | 0,_,_=>by simp[cnB]
 | k+1,h,hp=>by
  have ih:=zIe (k:=k) (by omega) fun i hi=>hp i (by omega)
  rw[zd (by omega),List.filter_append,List.length_append,cnB]
  have h1:=hp k (by omega)
  cases hq:Q k with
  | false=>simp only[Bool.false_eq_true,if_false];omega
  | true=>rw[List.filter_cons,if_pos (h1 hq)];simp;omega
theorem RX.holds{c:CL}(h:RX c):c.ns.length < 2*zNr c.ns c.ds:=by
 obtain⟨G,h⟩:=h
 have n1:=h.I.n1
 by_cases hd:c.ds=[]
 ·have e:zNr c.ns c.ds=c.ns.length:=by
   rw[zNr,hd,List.filter_eq_self.2]
   intro e _
   exact zFF [] _
  rw[e];omega
 ·obtain⟨Q,q1,q2⟩:=h.holds hd
  have:=zIe (ns:=c.ns) (Q:=Q) (p:=fun e=>zF0 c.ds (zFv (z8 e.A).log (z8 e.A).log.length)) (k:=c.ns.length) (Nat.le_refl _) fun i hi hq=>by
   obtain⟨r1,r2⟩:=q2 i hi hq
   show zF0 c.ds (zFv (yH c.ns i).log (yH c.ns i).log.length)=true
   rw[zGy (Nat.le_refl _),List.take_length]
   have e:(yH c.ns i).log.map zKW=c.ds++((yH c.ns i).log.drop c.ds.length).map zKW:=by
    rw[←r2,←List.map_append,r2,List.take_append_drop]
   rw[e];exact zFF _ _
  rw[List.take_length] at this
  have hh:zNr c.ns c.ds=(c.ns.filter fun e=>zF0 c.ds (zFv (z8 e.A).log (z8 e.A).log.length)).length:=rfl
  omega
theorem RX.I{c:CL}(h:RX c):ClI c:=by
 obtain⟨_,h⟩:=h
 exact h.I
end
section
variable [zS]
def quT(k n:Int):PV:=.agg [.int .i64 1,.int .i64 k,.int .i64 n,.int .i64 0,.str []]
def quG:PV:=.agg [.int .i64 2,.int .i64 0,.int .i64 0,.int .i64 0,.str []]
def quP(k:Int)(d:List UInt8):PV:=.agg [.int .i64 7,.int .i64 k,.int .i64 0,.int .i64 0,.str d]
def quL(k:Nat):List PV:=List.replicate (5+k) (quT k 3)++[quG,quP k [111,110,101],quP k [116,119,111],quT k 0,quT k 0]
def quS(len i:Nat)(c:CL)(a:PV):CL:=if (nth a.A 0).I≠1∨len≤i+2 then zCq 100 (zAS c (zDb a.A)).1 else (zAS c (zDb a.A)).1
def quR(n:Nat)(L:List PV):Nat→CL
 | 0=>yR n
 | i+1=>quS L.length i (quR n L i) (nth L i)
def quK(n:Nat)(a:PV)(d:Int):Bool:=d == 0 || !(decide (1 < n) || !((nth a.A 0).I == 2))
def quC(n len:Nat):Nat→CL→List PV→Bool × CL
 | _,c,[]=>(true,c)
 | i,c,a :: l=>(quK n a (zAS c (zDb a.A)).2&&(quC n len (i+1) (quS len i c a) l).1,(quC n len (i+1) (quS len i c a) l).2)
def quF(k:Nat)(ns:List PV):Nat→Bool
 | 0=>true
 | i+1=>(yH ns i).com == 3&&((yH ns i).role == 2) == decide (i=k)&&quF k ns i
def quB(n k:Nat):Bool:=
 (fun r:Bool × CL=>r.1&&(r.2.ns.length == n)&&quF k r.2.ns n&&eqL (fun x y=>x.S == y.S) (zFc r.2.ds) [.str [111,110,101],.str [116,119,111]]) (quC n (quL k).length 0 (yR n) (quL k))
theorem qu_1:∀k,k < 1→quB 1 k=true:=by decide +kernel
theorem qu_3:∀k,k < 3→quB 3 k=true:=by decide +kernel
theorem qu_5:∀k,k < 5→quB 5 k=true:=by decide +kernel
theorem quC_at{n:Nat}{L:List PV}:∀(m i:Nat),L.length - i=m→i≤L.length→(quC n L.length i (quR n L i) (L.drop i)).1=true →
  (∀j,i≤j→j < L.length→quK n (nth L j) (zAS (quR n L j) (zDb (nth L j).A)).2=true)∧(quC n L.length i (quR n L i) (L.drop i)).2=quR n L L.length
 | 0,i,hm,hi,h=>by
  have e:i=L.length:=by omega
  subst e
  refine⟨fun j a b=>by omega,?_⟩
  rw[List.drop_length];rfl
 | m+1,i,hm,hi,h=>by
  have hl:i < L.length:=by omega
  rw[zG hl,quC] at h ⊢
  simp only[Bool.and_eq_true] at h
  have hR:quS L.length i (quR n L i) (nth L i)=quR n L (i+1):=rfl
  rw[hR] at h ⊢
  obtain⟨q1,q2⟩:=quC_at m (i+1) (by omega) (by omega) h.2
  refine⟨fun j a b=>?_,q2⟩
  by_cases e:j=i
  ·subst e;exact h.1
  ·exact q1 j (by omega) b
theorem quF_at{k:Nat}{ns:List PV}:∀{m i:Nat},quF k ns m=true→i < m→(yH ns i).com=3∧((yH ns i).role=2↔i=k)
 | m+1,i,h,hi=>by
  simp only[quF,Bool.and_eq_true,beq_iff_eq] at h
  by_cases e:i=m
  ·subst e
   refine⟨h.1.1,?_⟩
   have h2:=h.1.2
   constructor
   ·intro q
    rw[q] at h2
    simpa using h2.symm
   ·intro q
    rw[decide_eq_true q] at h2
    simpa using h2
  ·exact quF_at h.2 (by omega)
theorem qu_all{n k:Nat}(h:(n=1∧k < 1)∨(n=3∧k < 3)∨(n=5∧k < 5)):quB n k=true:=by
 rcases h with ⟨rfl,h⟩ | ⟨rfl,h⟩ | ⟨rfl,h⟩
 ·exact qu_1 k h
 ·exact qu_3 k h
 ·exact qu_5 k h
theorem qu_at{n k:Nat}(h:(n=1∧k < 1)∨(n=3∧k < 3)∨(n=5∧k < 5)) :
  (∀j,j < (quL k).length→quK n (nth (quL k) j) (zAS (quR n (quL k) j) (zDb (nth (quL k) j).A)).2=true)∧(quR n (quL k) (quL k).length).ns.length=n ∧
  (∀i,i < n→(yH (quR n (quL k) (quL k).length).ns i).com=3∧((yH (quR n (quL k) (quL k).length).ns i).role=2↔i=k)) ∧
  eqL (fun x y=>x.S == y.S) (zFc (quR n (quL k) (quL k).length).ds) [.str [111,110,101],.str [116,119,111]]=true:=by
 have hB:=qu_all h
 simp only[quB,Bool.and_eq_true,beq_iff_eq] at hB
 obtain⟨q1,q2⟩:=quC_at (n:=n) (L:=quL k) _ 0 rfl (by omega) hB.1.1.1
 rw[List.drop_zero] at q2
 have e:quR n (quL k) 0=yR n:=rfl
 rw[e] at q2
 rw[←q2]
 exact⟨fun j=>q1 j (Nat.zero_le _),hB.1.1.2,fun i hi=>quF_at hB.1.2 hi,hB.2⟩
theorem setR_I:∀{k:Nat} {c:CL},ClI c→RtI c→ClI (zCq k c)∧RtI (zCq k c)∧(zCq k c).ns.length=c.ns.length
 | 0,c,h,hR=>⟨h,hR,rfl⟩
 | k+1,c,h,hR=>by
  rw[zCq]
  split
  ·exact⟨h,hR,rfl⟩
  ·obtain⟨h1,h2,h3⟩:=zM8 h hR zLM
   obtain⟨q1,q2,q3⟩:=setR_I (k:=k) h1 h2
   exact⟨q1,q2,q3.trans h3⟩
theorem quS_I{c:CL}(len i:Nat)(a:PV)(h:ClI c)(hR:RtI c):ClI (quS len i c a)∧RtI (quS len i c a):=by
 obtain⟨h1,h2,h3⟩:=zM8 h hR (zDb a.A)
 unfold quS
 split
 ·obtain⟨q1,q2,q3⟩:=setR_I (k:=100) h1 h2
  exact⟨q1,q2⟩
 ·exact⟨h1,h2⟩
theorem quR_I{n:Nat}{L:List PV}(h1:1≤n)(h5:n≤5):∀i,ClI (quR n L i)∧RtI (quR n L i)
 | 0=>zK4 h1 h5
 | i+1=>quS_I _ _ _ (quR_I h1 h5 i).1 (quR_I h1 h5 i).2
theorem setGo_add:∀{j k:Nat} {c:CL},zCq (j+k) c=zCq k (zCq j c)
 | 0,k,c=>by rw[Nat.zero_add];rfl
 | j+1,k,c=>by
  by_cases h:c.ws.length=0
  ·rw[zJb h,zJb h,zJb h]
  ·rw[show j+1+k=(j+k)+1 by omega,zJa h,zJa h,setGo_add]
end
section
variable [zS]
def CA.pv(a:CA):PV:=.agg [.int .i64 a.kind,.int .i64 a.node,.int .i64 a.n,.int .i64 a.keep,.str a.data]
end
section
variable [zS]
def atN(es:List PV)(i n:Int):Int:=
 if n≤1 then 0 else if es.length=0 then (i*7).tmod n else ((nth es (i.tmod es.length).toNat).I*31+(nth es ((i+1).tmod es.length).toNat).I+i.tdiv es.length).tmod n
theorem zT2{es:List PV}{i n:Int}(hc:zAa es)(hi:0≤i)(hn:1≤n):0≤atN es i n∧atN es i n < n:=by
 unfold atN
 split
 ·omega
 ·split
  ·exact zCY _ _ (by omega) (by omega)
  ·have h1:=zCY i es.length hi (by omega)
   have h2:=zCY (i+1) es.length (by omega) (by omega)
   have h3:=hc _ (zb (show(i.tmod es.length).toNat < es.length by omega))
   have h4:=hc _ (zb (show((i+1).tmod es.length).toNat < es.length by omega))
   have h5:=Int.tdiv_nonneg hi (show(0:Int)≤es.length by omega)
   exact zCY _ _ (by omega) (by omega)
def zUD:zJ:=⟨[(.rd,.list (.int .u8)),(.rd,.int .i64),(.rd,.int .i64)],[.int .i64],true,fun ps=>0≤(nth ps 1).I∧(nth ps 1).I≤1000000,fun ps=>[.int .i64 (atN (nth ps 0).L (nth ps 1).I (nth ps 2).I)],fun _=>[]⟩
theorem ze6:zh Tryz.prog 32 zUD:=by
 refine zP [0,1,2,6] [.tmp 6] (zD (zB [])) mixed Tryz.func32 rfl (by decide) rfl (by decide) rfl ?_
 intro ps hT hpre W hW
 simp only[zUD,TyA,Ty,Tys] at hT hpre
 obtain⟨_,_,rfl,⟨es,rfl,hes,tes⟩,_,_,rfl,⟨i,rfl,hi⟩,_,_,rfl,⟨n,rfl,hn⟩,rfl⟩:=hT
 simp only[zE,zF,yp] at hpre
 refine hW.vc [(5,[],tkN [0,1,2,3,4,5,6,7,8,9,10,11,12,13,14,15,16,17,18,19,20,21,22,23,24,25] (alS 26 .done))] _ _ ?_
 simp[-List.getD_eq_getElem?_getD,zUD]
 have hc:=yd ‹_›
 rw[zC (n:=i*7) (by omega),zC (n:=i+1) (by omega)]
 refine⟨fun h=>by simp[atN,h],fun h _=>⟨fun h2=>⟨by omega,by subst h2;simp[atN,show ¬n≤1 by omega]⟩,fun h2=>?_⟩⟩
 have hl:0 < es.length:=List.length_pos_iff.2 h2
 have h1:=zCY i es.length hpre.1 (by omega)
 have h3:=zCY (i+1) es.length (by omega) (by omega)
 have h4:=hc _ (zb (show(i.tmod es.length).toNat < es.length by omega))
 have h5:=hc _ (zb (show((i+1).tmod es.length).toNat < es.length by omega))
 have h6:=Int.tdiv_nonneg hpre.1 (show(0:Int)≤es.length by omega)
 have h7:=Int.tdiv_le_self (es.length:Int) hpre.1
 refine⟨by decide +kernel,fun _=>⟨h2,⟨h1.1,h1.2⟩,by omega,fun _ _=>⟨h2,⟨h3.1,h3.2⟩,by omega,fun _ _=>⟨h2,by omega,?_⟩⟩⟩⟩
 rw[zC (n:=(nth es (i.tmod es.length).toNat).I) (by omega),zC (n:=(nth es (i.tmod es.length).toNat).I*31) (by omega),zC (n:=(nth es ((i+1).tmod es.length).toNat).I) (by omega),zC (n:=i.tdiv es.length) (by omega),
  zC (n:=(nth es (i.tmod es.length).toNat).I*31+(nth es ((i+1).tmod es.length).toNat).I) (by omega),zC (n:=(nth es (i.tmod es.length).toNat).I*31+(nth es ((i+1).tmod es.length).toNat).I+i.tdiv es.length) (by omega)]
 simp[atN,show ¬n≤1 by omega,h2]
end
section
variable [zS]
def noS(t:Nat)(S:St):St:={ S with Lp:=zMt [t] S.Lp,Lt:=[] }
theorem noS_rule{E:Env}{N:Nat}{keep:List Nat}{n0:Nat}{fin:St→Prop}{W:List KI→St→Prop}(hW:zNn E N keep n0 fin W)(t:Nat)(k:List KI)(S:St)(h:ent keep n0 [] S (noS t S))(h2:W k (noS t S)):W k S:=hW.ent k S _ [] h h2
def nwR(n:Int):CL × Int:=cond (inB n 1 5) (yR n.toNat,0) (clO,4)
def c_iNewCluster:zJ:=⟨[(.rd,.int .i64)],[.agg [.list (.agg [.int .i64,.int .i64,.int .i64,.int .i64,.int .i64,.bool,.list (.agg [.int .i64,.str]),.int .i64,.int .i64,.int .i64,.list (.int .i64),.list (.int .i64),.list (.int .i64)]),.list (.agg [.str,.int .i64]),.list (.agg [.int .i64,.int .i64,.int .i64,.int .i64,.int .i64,.int .i64,.int .i64,.bool,.list (.agg [.int .i64,.str])]),.list .str],.int .i64],true,fun _=>True,fun ps=>[(nwR (nth ps 0).I).1.pv,.int .i64 (nwR (nth ps 0).I).2],fun _=>[]⟩
theorem k_iNewCluster:zh Tryz.prog 44 c_iNewCluster:=by
 refine zP [0,2,3] [.cell 2 29,.tmp 3] (zA (cs:=[]) zEi (zA (cs:=[]) zA9 (zD (zB [])))) mixed Tryz.func44 rfl (by decide) rfl (by decide) rfl ?_
 intro ps hT hpre W hW
 simp only[c_iNewCluster,TyA,Ty,Tys] at hT hpre
 obtain⟨_,_,rfl,⟨n,rfl,hn⟩,rfl⟩:=hT
 refine hW.vc [] _ _ ?_
 simp[-List.reduceReplicate,-List.getD_eq_getElem?_getD,c_iNewCluster,zT,zH,CL.pv]
 refine⟨fun h=>by rw[nwR,h];exact⟨⟨rfl,rfl,rfl,rfl⟩,rfl⟩,fun h=>⟨zk.1 h,?_⟩⟩
 obtain⟨e1,e2⟩:=zFY (zk.1 h)
 rw[nwR,h];exact⟨⟨e1,e2,rfl,rfl⟩,rfl⟩
def dQ(j:Int):Int:=if j=0 then 3 else if j=1 then 5 else 1
theorem dQ_at{j k:Int}(h:0≤j∧j < 3)(hk:0≤k∧k < dQ j):(1≤dQ j∧dQ j≤5)∧(((dQ j).toNat=1∧k.toNat < 1)∨((dQ j).toNat=3∧k.toNat < 3)∨((dQ j).toNat=5∧k.toNat < 5)):=by
 rcases (by omega:j=0∨j=1∨j=2) with rfl | rfl | rfl
 ·have e:dQ 0=3:=rfl
  rw[e] at hk ⊢
  exact⟨by omega,.inr (.inl ⟨rfl,by omega⟩)⟩
 ·have e:dQ 1=5:=rfl
  rw[e] at hk ⊢
  exact⟨by omega,.inr (.inr ⟨rfl,by omega⟩)⟩
 ·have e:dQ 2=1:=rfl
  rw[e] at hk ⊢
  exact⟨by omega,.inl ⟨rfl,by omega⟩⟩
theorem quL_len(k:Nat):(quL k).length=k+10:=by simp[quL];omega
def c_fnQuiet:zJ:=⟨[(.rd,.list (.int .u8)),(.rd,.list (.int .u8))],[.bool],true,fun _=>True,fun _=>[.bool true],fun _=>[]⟩
set_option maxHeartbeats 2000000 in
theorem k_fnQuiet:zh Tryz.prog 10 c_fnQuiet:=by
 refine zP [0,1,4,5,6,7,8,9,10,11,12,13,14,15,17,18,19] [.tmp 4] (zA (cs:=[]) zD7 (zA (cs:=[]) zJQ (zA (cs:=[]) zQ2 (zA (cs:=[]) zQ3 (zA (cs:=[]) k_iNewCluster (zA (cs:=[]) ze6 (zD (zB [])))))))) mixed Tryz.func10 rfl (by decide) rfl (by decide) rfl ?_
 intro ps hT hpre W hW
 simp only[c_fnQuiet,TyA,Ty,Tys] at hT hpre
 obtain⟨_,_,rfl,⟨es,rfl,hes,tes⟩,_,_,rfl,⟨es2,rfl,hes2,tes2⟩,rfl⟩:=hT
 have hc2:=yd tes2
 obtain⟨j,hj⟩:∃j,j=atN es2 0 3:=⟨_,rfl⟩
 have hj2:=zT2 (i:=0) (n:=3) hc2 (by omega) (by omega)
 rw[←hj] at hj2
 have hx:(nth [PV.int .i64 3,PV.int .i64 5,PV.int .i64 1] j.toNat).I=dQ j:=by
  rcases (by omega:j=0∨j=1∨j=2) with rfl | rfl | rfl<;>rfl
 obtain⟨k,hk⟩:∃k,k=atN es2 1 (dQ j):=⟨_,rfl⟩
 have hk2:=zT2 (i:=1) (n:=dQ j) hc2 (by omega) (by unfold dQ;split<;>(try split)<;>omega)
 rw[←hk] at hk2
 obtain⟨hn,hnk⟩:=dQ_at hj2 hk2
 obtain⟨n,hN⟩:∃n,n=dQ j:=⟨_,rfl⟩
 rw[←hN] at hn hnk hk2 hk hx
 obtain⟨q1,q2,q3,q4⟩:=qu_at hnk
 refine hW.vc [(17,[10],tkN [0,1,2,3,4] (.alt 5 (tkN [6,7] (.alt 8 (alN [9,10,11] .done) (alS 9 (.alt 8 (alN [10,11] .done) (alS 10 (tkN [8] (alS 11 .done))))))) (alN [9,5] (tkN [6,7] (.alt 8 (alN [10,11] .done) (alS 10 (tkN [8] (alS 11 .done))))))))] _ _ ?_
 simp[-List.reduceReplicate,-List.getD_eq_getElem?_getD,c_fnQuiet,zUD,c_iNewCluster,zCX,zHC,zAu,yF,zM,CL.pv,←hj,hx,←hN,←hk]
 have hv:nwR n=(yR n.toNat,0):=by rw[nwR,zk.2 hn];rfl
 obtain⟨K,hK⟩:∃K:Nat,k=K:=⟨k.toNat,by omega⟩
 have hK2:k.toNat=K:=by omega
 have hK5:K < 5:=by omega
 rw[hK2] at q1 q2 q3 q4
 have hln:=quL_len K
 rw[hv,hK]
 refine fun _ _ _ _=>⟨by decide +kernel,by omega,by omega,fun _=>⟨rfl,fun _=>?_⟩⟩
 refine hW.loopS _ _ _ [.sl 9 .dp (.list (.agg [.int .i64,.int .i64,.int .i64,.int .i64,.str])),.sl 10 .dp (.int .i64)] (fun ys=>∃i:Nat,ys=[.list (List.replicate i (quT K 3)),.int .i64 i]∧i≤5+K) (fun ys=>5+K - (nth ys 1).I.toNat) ?_ ?_
 ·simp[-List.reduceReplicate,-List.getD_eq_getElem?_getD,c_fnQuiet,zUD,c_iNewCluster,zCX,zHC,zAu,yF,zM]
  exact⟨0,⟨rfl,rfl⟩,by omega⟩
 ·rintro ys ⟨i,rfl,g1⟩
  have w1:IntKind.i64.wrap ((i:Int)+1)=i+1:=zC (by omega)
  have w5:IntKind.i64.wrap (5+(K:Int))=5+K:=zC (by omega)
  refine hW.vc [(17,[10],tkN [0,1,2,3,4] (.alt 5 (tkN [6,7] (.alt 8 (alN [9,10,11] .done) (alS 9 (.alt 8 (alN [10,11] .done) (alS 10 (tkN [8] (alS 11 .done))))))) (alN [9,5] (tkN [6,7] (.alt 8 (alN [10,11] .done) (alS 10 (tkN [8] (alS 11 .done))))))))] _ _ ?_
  simp[-List.reduceReplicate,-List.getD_eq_getElem?_getD,c_fnQuiet,zUD,c_iNewCluster,zCX,zHC,zAu,yF,zM,w1,w5]
  refine⟨fun h=>⟨by omega,fun _=>⟨⟨i+1,⟨(List.replicate_succ' (n:=i) (a:=quT K 3)).symm,by omega⟩,by omega⟩,by omega⟩⟩,fun h=>⟨by decide +kernel,by omega,fun _=>?_⟩⟩
  have eL:List.replicate i (quT K 3)++[.agg [.int .i64 2,.int .i64 0,.int .i64 0,.int .i64 0,.str []],.agg [.int .i64 7,.int .i64 K,.int .i64 0,.int .i64 0,.str [111,110,101]],.agg [.int .i64 7,.int .i64 K,.int .i64 0,.int .i64 0,.str [116,119,111]],.agg [.int .i64 1,.int .i64 K,.int .i64 0,.int .i64 0,.str []],.agg [.int .i64 1,.int .i64 K,.int .i64 0,.int .i64 0,.str []]]=quL K:=by
   rw[show i=5+K by omega];rfl
  rw[eL]
  obtain⟨L,hL⟩:∃L,L=quL K:=⟨_,rfl⟩
  rw[←hL] at hln q1 q2 q3 q4 ⊢
  refine hW.loopS _ _ _ [.fx 7 [.list (.agg [.int .i64,.int .i64,.int .i64,.int .i64,.int .i64,.bool,.list (.agg [.int .i64,.str]),.int .i64,.int .i64,.int .i64,.list (.int .i64),.list (.int .i64),.list (.int .i64)]),.list (.agg [.str,.int .i64]),.list (.agg [.int .i64,.int .i64,.int .i64,.int .i64,.int .i64,.int .i64,.int .i64,.bool,.list (.agg [.int .i64,.str])]),.list .str],.sl 11 .dp (.int .i64)] (fun ys=>∃m:Nat,ys=[(quR n.toNat L m).pv,.int .i64 m]∧m≤L.length) (fun ys=>L.length - (nth ys 1).I.toNat) ?_ ?_
  ·simp[-List.reduceReplicate,-List.getD_eq_getElem?_getD,c_fnQuiet,zUD,c_iNewCluster,zCX,zHC,zAu,yF,zM,CL.pv]
   exact⟨0,⟨⟨rfl,rfl,rfl,rfl⟩,rfl⟩,by omega⟩
  ·rintro ys ⟨m,rfl,g2⟩
   have w1:IntKind.i64.wrap ((m:Int)+1)=m+1:=zC (by omega)
   have w3:IntKind.i64.wrap ((L.length:Int) - 2)=L.length - 2:=zC (by omega)
   obtain⟨I1,I2⟩:=quR_I (n:=n.toNat) (L:=L) (by omega) (by omega) m
   have hS:quR n.toNat L (m+1)=quS L.length m (quR n.toNat L m) (nth L m):=rfl
   have hq:=q1 m
   have hE:m=L.length→quR n.toNat L m=quR n.toNat L L.length:=fun h=>by rw[h]
   obtain⟨c,hc⟩:∃c,c=quR n.toNat L m:=⟨_,rfl⟩
   rw[←hc] at I1 I2 hS hq hE ⊢
   have hcl:zCw c.ns c.ss c.ws c.ds=true:=I1.ok
   have hR:csR c (zDb (nth L m).A)=zAS c (zDb (nth L m).A):=by rw[csR,hcl];rfl
   obtain⟨ns,ss,ws,ds⟩:=c
   simp only[CL.pv]
   refine hW.vc [] _ _ ?_
   simp[-List.reduceReplicate,-List.getD_eq_getElem?_getD,c_fnQuiet,zUD,c_iNewCluster,zCX,zHC,zAu,yF,zM,CL.pv,zBd,zGW,w1,w3]
   refine fun _=>⟨fun h=>?_,fun h=>?_⟩
   ·have hq:=hq h
    obtain⟨D,hD⟩:∃D,D=zAS ⟨ns,ss,ws,ds⟩ (zDb (nth L m).A):=⟨_,rfl⟩
    obtain⟨J1,J2,_⟩:=zM8 I1 I2 (zDb (nth L m).A)
    have hS1:(nth (nth L m).A 0).I≠1∨L.length≤m+2→quR n.toNat L (m+1)=zCq 100 D.1:=fun h=>by rw[hS,quS,if_pos h,hD]
    have hS2:¬((nth (nth L m).A 0).I≠1∨L.length≤m+2)→quR n.toNat L (m+1)=D.1:=fun h=>by rw[hS,quS,if_neg h,hD]
    rw[←hD] at hq J1 J2
    have hk:¬D.2=0→n≤1∧(nth (nth L m).A 0).I=2:=by
     intro h0
     simp only[quK,Bool.or_eq_true,beq_iff_eq,Bool.not_eq_true',Bool.or_eq_false_iff,decide_eq_false_iff_not,Bool.not_eq_false'] at hq
     rcases hq with z | z
     ·exact absurd z h0
     ·exact⟨by omega,z.2⟩
    have hR:csR ⟨ns,ss,ws,ds⟩ (zDb (nth L m).A)=D:=by rw[hR,hD]
    refine hW.cutS [_] _ _ [.nb 12 29 [.list (.agg [.int .i64,.int .i64,.int .i64,.int .i64,.int .i64,.bool,.list (.agg [.int .i64,.str]),.int .i64,.int .i64,.int .i64,.list (.int .i64),.list (.int .i64),.list (.int .i64)]),.list (.agg [.str,.int .i64]),.list (.agg [.int .i64,.int .i64,.int .i64,.int .i64,.int .i64,.int .i64,.int .i64,.bool,.list (.agg [.int .i64,.str])]),.list .str],.sl 13 .dp (.int .i64)] (fun ys=>ys=[D.1.pv,.int .i64 D.2]) ?_ ?_
    ·refine hW.vc [(17,[10],tkN [0,1,2,3,4] (.alt 5 (tkN [6,7] (.alt 8 (alN [9,10,11] .done) (alS 9 (.alt 8 (alN [10,11] .done) (alS 10 (tkN [8] (alS 11 .done))))))) (alN [9,5] (tkN [6,7] (.alt 8 (alN [10,11] .done) (alS 10 (tkN [8] (alS 11 .done))))))))] _ _ ?_
     simp[-List.reduceReplicate,-List.getD_eq_getElem?_getD,c_fnQuiet,zUD,c_iNewCluster,zCX,zHC,zAu,yF,zM,CL.pv,zBd,zGW,hR]
     have hsm:zFe [.list ns,.list ss,.list ws,.list ds]:=I1.sm.clu
     clear hW
     repeat' (first | exact hsm | exact h | apply And.intro | intro _)
     all_goals first | omega | rfl | decide +kernel
    rintro _ rfl
    refine hW.vc [(17,[10],tkN [0,1,2,3,4] (.alt 5 (tkN [6,7] (.alt 8 (alN [9,10,11] .done) (alS 9 (.alt 8 (alN [10,11] .done) (alS 10 (tkN [8] (alS 11 .done))))))) (alN [9,5] (tkN [6,7] (.alt 8 (alN [10,11] .done) (alS 10 (tkN [8] (alS 11 .done))))))))] _ _ ?_
    simp[-List.reduceReplicate,-List.getD_eq_getElem?_getD,c_fnQuiet,zUD,c_iNewCluster,zCX,zHC,zAu,yF,zM,CL.pv,zBd,zGW,w1,w3]
    refine⟨fun a b=>⟨⟨a,b⟩,h⟩,fun _=>⟨fun a=>⟨a,fun b=>⟨a,b⟩⟩,hk,fun _=>⟨h,fun _ _=>⟨fun hc=>?_,fun k1 k2=>?_⟩⟩⟩⟩
    ·refine noS_rule hW 12 _ _ (by simp[-List.reduceReplicate,noS,-List.getD_eq_getElem?_getD,c_fnQuiet,zUD,c_iNewCluster,zCX,zHC,zAu,yF,zM]) ?_
     simp only[noS,zMt]
     refine hW.loopS _ _ _ [.fx 7 [.list (.agg [.int .i64,.int .i64,.int .i64,.int .i64,.int .i64,.bool,.list (.agg [.int .i64,.str]),.int .i64,.int .i64,.int .i64,.list (.int .i64),.list (.int .i64),.list (.int .i64)]),.list (.agg [.str,.int .i64]),.list (.agg [.int .i64,.int .i64,.int .i64,.int .i64,.int .i64,.int .i64,.int .i64,.bool,.list (.agg [.int .i64,.str])]),.list .str],.sl 14 .dp (.int .i64)] (fun ys=>∃r:Nat,ys=[(zCq r D.1).pv,.int .i64 r]∧r≤100) (fun ys=>100 - (nth ys 1).I.toNat) ?_ ?_
     ·simp[-List.reduceReplicate,-List.getD_eq_getElem?_getD,c_fnQuiet,zUD,c_iNewCluster,zCX,zHC,zAu,yF,zM,CL.pv]
      exact⟨0,⟨⟨rfl,rfl,rfl,rfl⟩,rfl⟩,by omega⟩
     ·rintro ys ⟨r,rfl,g3⟩
      have w4:IntKind.i64.wrap ((r:Int)+1)=r+1:=zC (by omega)
      obtain⟨P1,P2,_⟩:=setR_I (k:=r) J1 J2
      have hA:quR n.toNat L (m+1)=zCq (100 - r) (zCq r D.1):=by rw[hS1 (by omega),←setGo_add];congr 1;omega
      have hB:¬(zCq r D.1).ws.length=0→zCq (r+1) D.1=(zAS (zCq r D.1) zLM).1:=fun h=>by rw[setGo_add,zJa h];rfl
      obtain⟨e,he⟩:∃e,e=zCq r D.1:=⟨_,rfl⟩
      rw[←he] at P1 P2 hA hB ⊢
      have ecl:zCw e.ns e.ss e.ws e.ds=true:=P1.ok
      have eR:csR e zLM=zAS e zLM:=by rw[csR,ecl];rfl
      have wl:=P1.wl
      obtain⟨ns',ss',ws',ds'⟩:=e
      simp only[CL.pv]
      have eA:zDb [.int .i64 2,.int .i64 0,.int .i64 0,.int .i64 0,.str []]=zLM:=rfl
      refine hW.vc [(17,[10],tkN [0,1,2,3,4] (.alt 5 (tkN [6,7] (.alt 8 (alN [9,10,11] .done) (alS 9 (.alt 8 (alN [10,11] .done) (alS 10 (tkN [8] (alS 11 .done))))))) (alN [9,5] (tkN [6,7] (.alt 8 (alN [10,11] .done) (alS 10 (tkN [8] (alS 11 .done))))))))] _ _ ?_
      simp[-List.reduceReplicate,-List.getD_eq_getElem?_getD,c_fnQuiet,zUD,c_iNewCluster,zCX,zHC,zAu,yF,zM,CL.pv,zBd,w1,w4,zCX,eA,eR]
      refine fun _=>⟨fun h1 h2=>⟨P1.sm.clu,⟨r+1,⟨?_,by omega⟩,by omega⟩,by omega⟩,fun h1=>⟨⟨m+1,⟨?_,by omega⟩,by omega⟩,by omega⟩⟩
      ·rw[hB (by show ¬ws'.length=0;omega)];exact⟨rfl,rfl,rfl,rfl⟩
      ·have e1:quR n.toNat L (m+1)=⟨ns',ss',ws',ds'⟩:=by
        rw[hA]
        by_cases hw:ws'.length=0
        ·exact zJb hw
        ·rw[show 100 - r=0 by omega];rfl
       rw[e1];exact⟨rfl,rfl,rfl,rfl⟩
    ·have hz:=hS2 (by omega)
     rw[←hz]
     exact⟨⟨m+1,⟨⟨rfl,rfl,rfl,rfl⟩,by omega⟩,by omega⟩,by omega⟩
   ·have hE':=hE (by omega)
    rw[←hE'] at q2 q3 q4
    simp only at q2 q3 q4
    have ld:ldR ⟨ns,ss,ws,ds⟩=(zFc ds,0):=by rw[ldR,hcl];rfl
    rw[ld]
    refine⟨⟨rfl,by decide +kernel⟩,fun _=>⟨⟨⟨rfl,q4⟩,by omega⟩,fun _ _ _=>?_⟩⟩
    refine hW.loopS _ _ _ [.sl 19 .dp (.int .i64)] (fun ys=>∃r:Nat,ys=[.int .i64 r]∧r≤n.toNat) (fun ys=>n.toNat - (nth ys 0).I.toNat) ?_ ?_
    ·simp[-List.getD_eq_getElem?_getD,c_fnQuiet,zUD,c_iNewCluster,zCX,zHC,zAu,yF,zM]
     exact⟨0,rfl,by omega⟩
    ·rintro ys ⟨r,rfl,g3⟩
     have w4:IntKind.i64.wrap ((r:Int)+1)=r+1:=zC (by omega)
     have q5:=q3 r
     refine hW.vc [(17,[10],tkN [0,1,2,3,4] (.alt 5 (tkN [6,7] (.alt 8 (alN [9,10,11] .done) (alS 9 (.alt 8 (alN [10,11] .done) (alS 10 (tkN [8] (alS 11 .done))))))) (alN [9,5] (tkN [6,7] (.alt 8 (alN [10,11] .done) (alS 10 (tkN [8] (alS 11 .done))))))))] _ _ ?_
     simp[-List.getD_eq_getElem?_getD,c_fnQuiet,zUD,c_iNewCluster,zCX,zHC,zAu,yF,zM,w4]
     intro hr
     obtain⟨c1,c2⟩:=q5 (by omega)
     have c1:(nth (nth ns r).A 7).I=3:=c1
     have c2:(nth (nth ns r).A 4).I=2↔r=K:=c2
     have c3:((nth (nth ns r).A 4).I == 2)=((r:Int) == (K:Int)):=by
      rw[Bool.eq_iff_iff,beq_iff_eq,beq_iff_eq,c2];omega
     exact⟨by omega,fun _=>⟨fun _=>⟨c1,by omega⟩,fun _=>⟨⟨c1,c3⟩,fun _ _=>⟨⟨r+1,by omega,by omega⟩,by omega⟩⟩⟩⟩
end
section
variable [zS]
theorem lt5:5 < Tryz.prog.types.size:=of_decide_eq_true (by kernel_rfl)
theorem D5:Dat Tryz.prog 5 false [.int .u8]:=.int Tryz.underlying5 lt5
theorem zba:59 < Tryz.prog.types.size:=of_decide_eq_true (by kernel_rfl)
theorem D59:Dat Tryz.prog 59 false [.list (.int .u8)]:=.slice (e:=5) (g:=false) (l:=[.int .u8]) Tryz.underlying59 D5 (by kernel_rfl) (by decide) (of_decide_eq_true (by kernel_rfl)) zba
end
end Go.Proofs.YthogljppoiekaaaGreat
