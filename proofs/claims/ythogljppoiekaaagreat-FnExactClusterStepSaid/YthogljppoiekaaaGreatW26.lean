/-
  Part 26: contracts of functions, and the laws by which they are proved.
  Conditions: none.
-/
import Derived.Test.YthogljppoiekaaaGreatW17
import Derived.Test.YthogljppoiekaaaGreatW22
set_option linter.unusedVariables false
set_option linter.unusedSimpArgs false
set_option linter.unusedSectionVars false
set_option maxRecDepth 100000
namespace Go.Proofs.YthogljppoiekaaaGreat
section
variable [zS]
def zEr:zJ:=⟨[(.bx,.box [.int .i64,.int .i64,.int .i64,.int .i64,.int .i64,.bool,.list (.agg [.int .i64,.str]),.int .i64,.int .i64,.int .i64,.list (.int .i64),.list (.int .i64),.list (.int .i64),.list (.agg [.int .i64,.int .i64,.int .i64,.int .i64,.int .i64,.int .i64,.int .i64,.bool,.list (.agg [.int .i64,.str])])])],[],true,fun ps=>((nth (nth ps 0).A 11).L.length:Int)=(nth (nth ps 0).A 1).I∧((nth (nth ps 0).A 12).L.length:Int)=(nth (nth ps 0).A 1).I∧1≤(nth (nth ps 0).A 1).I∧(nth (nth ps 0).A 1).I≤5,fun _=>[],
 fun ps=>[(zGv (z8 (nth ps 0).A)).rv (nth (nth ps 0).A 13).L]⟩
theorem zTQ:zh Tryz.prog 206 zEr:=by
 refine zP [0,2] [] (zD (zB [])) mixed Tryz.func206 rfl (by decide) rfl (by decide) rfl ?_
 intro ps hT hpre W hW
 simp only[zEr,TyA,Ty,Tys] at hT hpre
 obtain⟨_,_,rfl,⟨_,rfl,_,_,rfl,⟨n0,rfl,hn0⟩,_,_,rfl,⟨n1,rfl,hn1⟩,_,_,rfl,⟨n2,rfl,hn2⟩,_,_,rfl,⟨n3,rfl,hn3⟩,_,_,rfl,⟨n4,rfl,hn4⟩,_,_,rfl,⟨u,rfl⟩,_,_,rfl,⟨es,rfl,hes,tes⟩,_,_,rfl,⟨n5,rfl,hn5⟩,_,_,rfl,⟨n6,rfl,hn6⟩,_,_,rfl,⟨n7,rfl,hn7⟩,_,_,rfl,⟨vs,rfl,hvs,tvs⟩,_,_,rfl,⟨xs,rfl,hxs,txs⟩,_,_,rfl,⟨ms,rfl,hms,tms⟩,_,_,rfl,⟨out,rfl,hout,tout⟩,rfl⟩,rfl⟩:=hT
 simp only[zE,zF,yp,zAA,zBE] at hpre
 obtain⟨p1,p2,p3,p4⟩:=hpre
 refine hW.vc [] _ _ ?_
 simp[-List.getD_eq_getElem?_getD,zEr,z8,ND.rv,zGv]
 refine hW.loopS _ _ _ [.bx 0 [.int .i64,.int .i64,.int .i64,.int .i64,.int .i64,.bool,.list (.agg [.int .i64,.str]),.int .i64,.int .i64,.int .i64,.list (.int .i64),.list (.int .i64),.list (.int .i64),.list (.agg [.int .i64,.int .i64,.int .i64,.int .i64,.int .i64,.int .i64,.int .i64,.bool,.list (.agg [.int .i64,.str])])],.sl 2 .dp (.int .i64)] (fun ys=>∃i:Nat,ys=[.agg [.int .i64 n0,.int .i64 n1,.int .i64 n2,.int .i64 n3,.int .i64 0,.bool u,.list es,.int .i64 n5,.int .i64 n6,.int .i64 n7,.list [],.list (List.replicate i (.int .i64 1)++xs.drop i),.list (List.replicate i (.int .i64 0)++ms.drop i),.list out],.int .i64 i]∧(i:Int)≤n1) (fun ys=>n1.toNat - (nth ys 1).I.toNat) ?_ ?_
 ·simp[-List.getD_eq_getElem?_getD,zEr]
  exact⟨0,⟨⟨by simp,by simp⟩,rfl⟩,by omega⟩
 ·rintro ys ⟨i,rfl,g1⟩
  refine hW.vc [] _ _ ?_
  simp[-List.getD_eq_getElem?_getD,zEr,z8,ND.rv,zGv]
  rw[zC (n:=(i:Int)+1) (by omega)]
  refine⟨fun g2=>⟨by omega,by omega,by omega,by omega,⟨i+1,⟨⟨zRx (by omega),zRx (by omega)⟩,rfl⟩,by omega⟩,by omega⟩,fun g2=>?_⟩
  have hi:i=n1.toNat:=by omega
  have d1:xs.drop i=[]:=List.drop_eq_nil_of_le (by omega)
  have d2:ms.drop i=[]:=List.drop_eq_nil_of_le (by omega)
  rw[d1,d2,List.append_nil,List.append_nil,hi]
  exact⟨rfl,rfl⟩
def zKZ:zJ:=⟨[(.rd,.agg [.int .i64,.int .i64,.int .i64,.int .i64,.int .i64,.bool,.list (.agg [.int .i64,.str]),.int .i64,.int .i64,.int .i64,.list (.int .i64),.list (.int .i64),.list (.int .i64)]),(.rd,.int .i64),(.rd,.int .i64)],[.bool],true,fun ps=>(nth (nth ps 0).A 6).L.length≤1048576,fun ps=>[.bool (zWC (nth (nth ps 0).A 6).L (nth ps 1).I (nth ps 2).I)],fun _=>[]⟩
theorem zUl:zh Tryz.prog 229 zKZ:=by
 refine zP [0,1,2,3,6,7] [.tmp 6] (zA (cs:=[]) zNT (zD (zB []))) mixed Tryz.func229 rfl (by decide) rfl (by decide) rfl ?_
 intro ps hT hpre W hW
 simp only[zKZ,TyA,Ty,Tys] at hT hpre
 obtain⟨_,_,rfl,⟨_,rfl,_,_,rfl,⟨n0,rfl,hn0⟩,_,_,rfl,⟨n1,rfl,hn1⟩,_,_,rfl,⟨n2,rfl,hn2⟩,_,_,rfl,⟨n3,rfl,hn3⟩,_,_,rfl,⟨n4,rfl,hn4⟩,_,_,rfl,⟨u,rfl⟩,_,_,rfl,⟨es,rfl,hes,tes⟩,_,_,rfl,⟨n5,rfl,hn5⟩,_,_,rfl,⟨n6,rfl,hn6⟩,_,_,rfl,⟨n7,rfl,hn7⟩,_,_,rfl,⟨vs,rfl,hvs,tvs⟩,_,_,rfl,⟨xs,rfl,hxs,txs⟩,_,_,rfl,⟨ms,rfl,hms,tms⟩,rfl⟩,_,_,rfl,⟨x,rfl,hx⟩,_,_,rfl,⟨t,rfl,ht⟩,rfl⟩:=hT
 simp only[zE,zF,yp,zAA,zBE] at hpre
 refine hW.vc [] _ _ ?_
 simp[-List.getD_eq_getElem?_getD,zKZ,zEs]
 exact fun _ _=>⟨fun a=>⟨a,fun b=>⟨a,b⟩⟩,rfl⟩
def zRj:zJ:=⟨[(.bx,.box [.int .i64,.int .i64,.int .i64,.int .i64,.int .i64,.bool,.list (.agg [.int .i64,.str]),.int .i64,.int .i64,.int .i64,.list (.int .i64),.list (.int .i64),.list (.int .i64),.list (.agg [.int .i64,.int .i64,.int .i64,.int .i64,.int .i64,.int .i64,.int .i64,.bool,.list (.agg [.int .i64,.str])])]),(.rd,.agg [.int .i64,.int .i64,.int .i64,.int .i64,.int .i64,.int .i64,.int .i64,.bool,.list (.agg [.int .i64,.str])])],[],true,fun ps=>(nth (nth ps 0).A 13).L.length≤900∧(nth (nth ps 0).A 6).L.length≤1024,fun _=>[],
 fun ps=>[(zHV (z8 (nth ps 0).A) (yk (nth ps 1).A)).rv ((nth (nth ps 0).A 13).L++[zY4 (z8 (nth ps 0).A) (yk (nth ps 1).A)])]⟩
theorem ze2:zh Tryz.prog 207 zRj:=by
 refine zP [0,1,3,4] [] (zA (cs:=[]) zVn (zA (cs:=[]) zUl (zD (zB [])))) mixed Tryz.func207 rfl (by decide) rfl (by decide) rfl ?_
 intro ps hT hpre W hW
 simp only[zRj,TyA,Ty,Tys] at hT hpre
 obtain⟨_,_,rfl,⟨_,rfl,_,_,rfl,⟨n0,rfl,hn0⟩,_,_,rfl,⟨n1,rfl,hn1⟩,_,_,rfl,⟨n2,rfl,hn2⟩,_,_,rfl,⟨n3,rfl,hn3⟩,_,_,rfl,⟨n4,rfl,hn4⟩,_,_,rfl,⟨u,rfl⟩,_,_,rfl,⟨es,rfl,hes,tes⟩,_,_,rfl,⟨n5,rfl,hn5⟩,_,_,rfl,⟨n6,rfl,hn6⟩,_,_,rfl,⟨n7,rfl,hn7⟩,_,_,rfl,⟨vs,rfl,hvs,tvs⟩,_,_,rfl,⟨xs,rfl,hxs,txs⟩,_,_,rfl,⟨ms,rfl,hms,tms⟩,_,_,rfl,⟨out,rfl,hout,tout⟩,rfl⟩,_,_,rfl,⟨_,rfl,_,_,rfl,⟨m0,rfl,hm0⟩,_,_,rfl,⟨m1,rfl,hm1⟩,_,_,rfl,⟨m2,rfl,hm2⟩,_,_,rfl,⟨m3,rfl,hm3⟩,_,_,rfl,⟨m4,rfl,hm4⟩,_,_,rfl,⟨m5,rfl,hm5⟩,_,_,rfl,⟨m6,rfl,hm6⟩,_,_,rfl,⟨m7,rfl⟩,_,_,rfl,⟨m8,rfl,hm8,tm8⟩,rfl⟩,rfl⟩:=hT
 simp only[zE,zF,yp,zAA,zBE] at hpre
 refine hW.vc [(1,[],tkN [0,1,2,3,4,5,6,7,8,9,10,11,12,13,14,15,16,17,18,19,20,21,22,23,24,25,26,27,28,29,30,31,32,33,34] (alS 35 (tkN [36] (alS 37 .done))))] _ _ ?_
 simp[-List.getD_eq_getElem?_getD,zRj,zKZ,zLR,z8,yk,ND.rv]
 obtain⟨p1,p2⟩:=hpre
 obtain⟨nd,hnd⟩:∃nd:ND,nd=⟨n0,n1,n2,n3,n4,u,es,n5,n6,n7,vs,xs,ms⟩:=⟨_,rfl⟩
 obtain⟨mg,hmg⟩:∃mg:MG,mg=⟨m0,m1,m2,m3,m4,m5,m6,m7,m8⟩:=⟨_,rfl⟩
 rw[←hnd,←hmg]
 have hvB:zSn nd mg=(decide (m3=n2)&&(decide (n3=-1) || decide (n3=m1))&&zWC es m4 m5):=by rw[hmg,hnd];rfl
 refine⟨by decide +kernel,fun a=>⟨a,fun b=>⟨a,b⟩⟩,fun _ _=>by omega,fun a b c=>⟨by omega,?_⟩,fun a=>⟨by omega,?_⟩⟩
 ·have hv:zSn nd mg=true:=by rw[hvB];simp[a,b,c]
  rw[zHV,if_pos hv,zY4,hvB,hmg,hnd]
  and_intros<;>rfl
 ·have hv:¬zSn nd mg=true:=by
   rw[hvB]
   simp only[Bool.and_eq_true,Bool.or_eq_true,decide_eq_true_eq]
   intro h
   have:=a h.1.1 h.1.2
   rw[this] at h
   exact absurd h.2 (by simp)
  rw[zHV,if_neg hv,zY4,hvB,hmg,hnd]
  and_intros<;>rfl
end
end Go.Proofs.YthogljppoiekaaaGreat
