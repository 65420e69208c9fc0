/-
  Part 18: contracts of functions, and the laws by which they are proved.
  Conditions: none.
-/
import Derived.Test.YthogljppoiekaaaGreatW13
set_option linter.unusedVariables false
set_option linter.unusedSimpArgs false
set_option linter.unusedSectionVars false
set_option maxRecDepth 100000
namespace Go.Proofs.YthogljppoiekaaaGreat
section
variable [zS]
structure MG where
 kind:Int
 frm:Int
 to:Int
 term:Int
 idx:Int
 lt:Int
 com:Int
 ok:Bool
 es:List PV
def yk(v:List PV):MG:=⟨(nth v 0).I,(nth v 1).I,(nth v 2).I,(nth v 3).I,(nth v 4).I,(nth v 5).I,(nth v 6).I,(nth v 7).B,(nth v 8).L⟩
def MG.pv(m:MG):PV:=.agg [.int .i64 m.kind,.int .i64 m.frm,.int .i64 m.to,.int .i64 m.term,.int .i64 m.idx,.int .i64 m.lt,.int .i64 m.com,.bool m.ok,.list m.es]
def zGv(n:ND):ND:={ n with role:=0,vs:=[],nx:=List.replicate n.nodes.toNat (.int .i64 1),ms:=List.replicate n.nodes.toNat (.int .i64 0) }
def zEF:zJ:=⟨[(.bx,.box [.int .i64,.int .i64,.int .i64,.int .i64,.int .i64,.bool,.list (.agg [.int .i64,.str]),.int .i64,.int .i64,.int .i64,.list (.int .i64),.list (.int .i64),.list (.int .i64)])],[],true,fun ps=>1≤(nth (nth ps 0).A 1).I∧(nth (nth ps 0).A 1).I≤5,fun _=>[],fun ps=>[(zGv (z8 (nth ps 0).A)).pv]⟩
theorem zSM:zh Tryz.prog 145 zEF:=by
 refine zP [0] [] (zA (cs:=[]) zX5 (zD (zB []))) mixed Tryz.func145 rfl (by decide) rfl (by decide) rfl ?_
 intro ps hT hpre W hW
 simp only[zEF,TyA,Ty,Tys] at hT hpre
 obtain⟨_,_,rfl,⟨_,rfl,_,_,rfl,⟨n0,rfl,hn0⟩,_,_,rfl,⟨n1,rfl,hn1⟩,_,_,rfl,⟨n2,rfl,hn2⟩,_,_,rfl,⟨n3,rfl,hn3⟩,_,_,rfl,⟨n4,rfl,hn4⟩,_,_,rfl,⟨u,rfl⟩,_,_,rfl,⟨es,rfl,hes,tes⟩,_,_,rfl,⟨n5,rfl,hn5⟩,_,_,rfl,⟨n6,rfl,hn6⟩,_,_,rfl,⟨n7,rfl,hn7⟩,_,_,rfl,⟨vs,rfl,hvs,tvs⟩,_,_,rfl,⟨xs,rfl,hxs,txs⟩,_,_,rfl,⟨ms,rfl,hms,tms⟩,rfl⟩,rfl⟩:=hT
 simp only[zE,zF,yp,zAA,zBE] at hpre
 refine hW.vc [] _ _ ?_
 simp[-List.getD_eq_getElem?_getD,zEF,zQj,z8,ND.pv,zGv]
 exact hpre
def zWC(es:List PV)(idx lt:Int):Bool:=decide (zCI es es.length < lt) || decide (lt=zCI es es.length)&&decide ((es.length:Int)≤idx)
def zCf:zJ:=⟨[(.rd,.box [.int .i64,.int .i64,.int .i64,.int .i64,.int .i64,.bool,.list (.agg [.int .i64,.str]),.int .i64,.int .i64,.int .i64,.list (.int .i64),.list (.int .i64),.list (.int .i64)]),(.rd,.int .i64),(.rd,.int .i64)],[.bool],true,fun ps=>(nth (nth ps 0).A 6).L.length≤1048576,fun ps=>[.bool (zWC (nth (nth ps 0).A 6).L (nth ps 1).I (nth ps 2).I)],fun _=>[]⟩
theorem zTW:zh Tryz.prog 217 zCf:=by
 refine zP [0,1,2,6,7] [.tmp 6] (zA (cs:=[]) zNR (zD (zB []))) mixed Tryz.func217 rfl (by decide) rfl (by decide) rfl ?_
 intro ps hT hpre W hW
 simp only[zCf,TyA,Ty,Tys] at hT hpre
 obtain⟨_,_,rfl,⟨_,rfl,_,_,rfl,⟨n0,rfl,hn0⟩,_,_,rfl,⟨n1,rfl,hn1⟩,_,_,rfl,⟨n2,rfl,hn2⟩,_,_,rfl,⟨n3,rfl,hn3⟩,_,_,rfl,⟨n4,rfl,hn4⟩,_,_,rfl,⟨u,rfl⟩,_,_,rfl,⟨es,rfl,hes,tes⟩,_,_,rfl,⟨n5,rfl,hn5⟩,_,_,rfl,⟨n6,rfl,hn6⟩,_,_,rfl,⟨n7,rfl,hn7⟩,_,_,rfl,⟨vs,rfl,hvs,tvs⟩,_,_,rfl,⟨xs,rfl,hxs,txs⟩,_,_,rfl,⟨ms,rfl,hms,tms⟩,rfl⟩,_,_,rfl,⟨x,rfl,hx⟩,_,_,rfl,⟨t,rfl,ht⟩,rfl⟩:=hT
 simp only[zE,zF,yp,zAA,zBE] at hpre
 refine hW.vc [] _ _ ?_
 simp[-List.getD_eq_getElem?_getD,zCf,zDc]
 exact fun _ _=>⟨fun a=>⟨a,fun b=>⟨a,b⟩⟩,rfl⟩
def zFT:zJ:=⟨[(.rd,.int .i64)],[.bool],true,fun _=>True,fun _=>[.bool false],fun _=>[]⟩
theorem zZi:zh Tryz.prog 241 zFT:=by
 refine zP [0,2] [.tmp 2] (zD (zB [])) mixed Tryz.func241 rfl (by decide) rfl (by decide) rfl ?_
 intro ps hT hpre W hW
 simp only[zFT,TyA,Ty,Tys] at hT hpre
 obtain⟨_,_,rfl,⟨x,rfl,hx⟩,rfl⟩:=hT
 refine hW.vc [] _ _ ?_
 simp[-List.getD_eq_getElem?_getD,zFT]
def zON:zJ:=zFT
theorem zbk:zh Tryz.prog 232 zON:=by
 refine zP [0,2] [.tmp 2] (zD (zB [])) mixed Tryz.func232 rfl (by decide) rfl (by decide) rfl ?_
 intro ps hT hpre W hW
 simp only[zON,TyA,Ty,Tys] at hT hpre
 simp only[zFT,TyA,Ty,Tys] at hT hpre
 obtain⟨_,_,rfl,⟨x,rfl,hx⟩,rfl⟩:=hT
 refine hW.vc [] _ _ ?_
 simp[-List.getD_eq_getElem?_getD,zON,zFT]
def zJ3:zJ:=⟨[(.rd,.int .i64),(.rd,.int .i64)],[.bool],true,fun _=>True,fun ps=>[.bool (ltB (nth ps 0).I (nth ps 1).I)],fun _=>[]⟩
theorem zYG:zh Tryz.prog 231 zJ3:=by
 refine zP [0,1,4] [.tmp 4] (zA (cs:=[]) zZi (zD (zB []))) mixed Tryz.func231 rfl (by decide) rfl (by decide) rfl ?_
 intro ps hT hpre W hW
 simp only[zJ3,TyA,Ty,Tys] at hT hpre
 obtain⟨_,_,rfl,⟨x,rfl,hx⟩,_,_,rfl,⟨y,rfl,hy⟩,rfl⟩:=hT
 refine hW.vc [] _ _ ?_
 simp[-List.getD_eq_getElem?_getD,zJ3,zFT,ltB]
 rfl
def zIq(x:Int):List PV→Nat
 | []=>0
 | e :: es=>if e.I < x then zIq x es+1 else 0
def zQr(x:Int)(es:List PV):Bool:=decide (zIq x es < es.length)&&decide ((nth es (zIq x es)).I=x)
theorem zR4(x:Int):∀es,zIq x es≤es.length
 | []=>Nat.le_refl _
 | e :: es=>by
  have:=zR4 x es
  rw[zIq]
  split<;>simp<;>omega
theorem zVc{n x:Int}:∀{es:List PV} {p:Int},voB n p es=true→∀i,i < es.length→((nth es i).I < x↔i < zIq x es)
 | [],p,h,i,hi=>by simp at hi
 | e :: es,p,h,i,hi=>by
  simp only[voB,Bool.and_eq_true,decide_eq_true_eq] at h
  have up:∀{es:List PV} {q:Int},voB n q es=true→∀i,i < es.length→q < (nth es i).I:=by
   intro es
   induction es with
   | nil=>intro q _ i hi;simp at hi
   | cons e es ih=>
    intro q h i hi
    simp only[voB,Bool.and_eq_true,decide_eq_true_eq] at h
    cases i with
    | zero=>rw[zE];omega
    | succ i=>
     rw[zF]
     have:=ih h.2 i (by simpa using hi)
     omega
  rw[zIq]
  by_cases h1:e.I < x
  ·rw[if_pos h1]
   cases i with
   | zero=>rw[zE];exact⟨fun _=>by omega,fun _=>h1⟩
   | succ i=>
    rw[zF,zVc h.2 i (by simpa using hi)]
    omega
  ·rw[if_neg h1]
   refine⟨fun h2=>?_,fun h2=>by omega⟩
   cases i with
   | zero=>rw[zE] at h2;exact absurd h2 h1
   | succ i=>
    rw[zF] at h2
    have:=up h.2 i (by simpa using hi)
    omega
def zA6:zJ:=⟨[(.rd,.list (.int .i64)),(.rd,.int .i64)],[.int .i64,.bool],true,fun ps=>(nth ps 0).L.length≤1048576∧voB 5 (-1) (nth ps 0).L=true,fun ps=>[.int .i64 (zIq (nth ps 1).I (nth ps 0).L),.bool (zQr (nth ps 1).I (nth ps 0).L)],fun _=>[]⟩
theorem zQ5:zh Tryz.prog 218 zA6:=by
 refine zP [0,1,4,5,6,7,8,9] [.tmp 4,.tmp 5] (zA (cs:=[]) zbk (zA (cs:=[]) zYG (zD (zB [])))) mixed Tryz.func218 rfl (by decide) rfl (by decide) rfl ?_
 intro ps hT hpre W hW
 simp only[zA6,TyA,Ty,Tys] at hT hpre
 obtain⟨_,_,rfl,⟨es,rfl,hes,tes⟩,_,_,rfl,⟨x,rfl,hx⟩,rfl⟩:=hT
 simp only[zE,zF,yp,zAA] at hpre
 obtain⟨p1,p2⟩:=hpre
 refine hW.vc [] _ _ ?_
 simp[-List.getD_eq_getElem?_getD,zA6,zJ3,zON,zFT,zFT]
 refine fun _=>hW.loopS _ _ _ [.sl 7 .dp (.int .i64),.sl 8 .dp (.int .i64)] (fun ys=>∃i j:Nat,ys=[.int .i64 i,.int .i64 j]∧i≤zIq x es∧zIq x es≤j∧j≤es.length) (fun ys=>(nth ys 1).I.toNat - (nth ys 0).I.toNat) ?_ ?_
 ·simp[-List.getD_eq_getElem?_getD,zA6,zJ3,zON,zFT]
  exact⟨0,_,⟨rfl,rfl⟩,by omega,zR4 x es,by omega⟩
 ·rintro ys ⟨i,j,rfl,g1,g2,g3⟩
  refine hW.vc [] _ _ ?_
  simp[-List.getD_eq_getElem?_getD,zA6,zJ3,zON,zFT,zFT]
  have em:IntKind.i64.wrap (zam IntKind.u64 (IntKind.u64.wrap (IntKind.i64.wrap ((i:Int)+(j:Int)))) 1)=(((i+j) / 2:Nat):Int):=by
   rw[zC (n:=(i:Int)+j) (by omega),zW5 (by omega)]
   have e1:zam IntKind.u64 ((i:Int)+j) 1=(((i+j) / 2:Nat):Int):=by
    show Int.fdiv ((i:Int)+j) 2=_
    rw[Int.fdiv_eq_ediv_of_nonneg _ (by omega)]
    omega
   rw[e1,zC (by omega)]
  obtain⟨h,hh⟩:∃h,h=(i+j) / 2:=⟨_,rfl⟩
  rw[←hh] at em
  rw[em]
  refine⟨fun q1=>?_,fun q1=>?_⟩
  ·have b1:i≤h∧h < j:=by omega
   have b2:=zVc (x:=x) p2 h (by omega)
   refine⟨⟨by omega,by omega⟩,by omega,fun _=>⟨fun q2=>?_,fun q2=>?_⟩⟩
   ·rw[Int.toNat_natCast,ltB,decide_eq_true_eq,b2] at q2
    rw[zC (by omega)]
    exact⟨⟨h+1,j,⟨rfl,rfl⟩,by omega,by omega,by omega⟩,by omega⟩
   ·rw[Int.toNat_natCast,ltB,decide_eq_false_iff_not,b2] at q2
    exact⟨⟨i,h,⟨rfl,rfl⟩,by omega,by omega,by omega⟩,by omega⟩
  ·have e:i=zIq x es:=by omega
   refine fun _=>⟨fun a b=>⟨⟨a,b⟩,a⟩,fun _=>⟨fun a=>⟨a,fun b=>⟨a,b⟩⟩,by rw[e],by rw[e,zQr]⟩⟩
end
end Go.Proofs.YthogljppoiekaaaGreat
