/-
  Part 19: contracts of functions, and the laws by which they are proved.
  Conditions: none.
-/
import Derived.Test.YthogljppoiekaaaGreatW14
import Derived.Test.YthogljppoiekaaaGreatW18
set_option linter.unusedVariables false
set_option linter.unusedSimpArgs false
set_option linter.unusedSectionVars false
set_option maxRecDepth 100000
namespace Go.Proofs.YthogljppoiekaaaGreat
section
variable [zS]
def zAD(log:List PV)(k:Nat):List PV→List PV
 | []=>log
 | e :: es=>if k < log.length∧(nth (nth log k).A 0).I=(nth e.A 0).I then zAD log (k+1) es else log.take k++(e :: es)
def mnI(a b:Int):Int:=if b < a then b else a
def mxI(a b:Int):Int:=if a < b then b else a
def zDX(n:ND)(m:MG):Bool:=decide (m.term < n.term) || decide ((n.log.length:Int) < m.idx) || decide (¬zCI n.log m.idx=m.lt)
def zAW(n:ND)(m:MG):ND:=if m.term=n.term then { zGv n with ela:=0 } else n
def zPU(n:ND)(m:MG):ND:={ n with log:=zAD n.log m.idx.toNat m.es,com:=mxI n.com (mnI m.com (m.idx+m.es.length)) }
def zM5(n:ND)(m:MG)(ix:Int)(ok:Bool):PV:=.agg [.int .i64 4,.int .i64 n.id,.int .i64 m.frm,.int .i64 n.term,.int .i64 ix,.int .i64 0,.int .i64 0,.bool ok,.list []]
def zBQ(n:ND)(m:MG):ND × Int × Bool:=
 cond (zDX n m) (zAW n m,mxI 0 (mnI n.log.length (m.idx - 1)),false) (zPU (zAW n m) m,m.idx+m.es.length,true)
theorem zVQ{n:ND}{m:MG}(h:(m.term < n.term∨(n.log.length:Int) < m.idx)∨¬zCI n.log m.idx=m.lt):zBQ n m=(zAW n m,mxI 0 (mnI n.log.length (m.idx - 1)),false):=by
 have:zDX n m=true:=by rcases h with (h | h) | h<;>simp[zDX,h]
 rw[zBQ,this];rfl
theorem zSw{n:ND}{m:MG}(h1:n.term≤m.term)(h2:m.idx≤n.log.length)(h3:zCI n.log m.idx=m.lt):zBQ n m=(zPU (zAW n m) m,m.idx+m.es.length,true):=by
 have:zDX n m=false:=by simp[zDX,h3];omega
 rw[zBQ,this];rfl
def tkOk(n:ND)(m:MG):Prop:=NdF n∧0≤m.idx∧m.idx≤60∧m.es.length≤60∧m.term≤n.term
def zJw:zJ:=⟨[(.bx,.box [.int .i64,.int .i64,.int .i64,.int .i64,.int .i64,.bool,.list (.agg [.int .i64,.str]),.int .i64,.int .i64,.int .i64,.list (.int .i64),.list (.int .i64),.list (.int .i64)]),(.rd,.agg [.int .i64,.int .i64,.int .i64,.int .i64,.int .i64,.int .i64,.int .i64,.bool,.list (.agg [.int .i64,.str])])],[.agg [.int .i64,.int .i64,.int .i64,.int .i64,.int .i64,.int .i64,.int .i64,.bool,.list (.agg [.int .i64,.str])]],true,fun ps=>tkOk (z8 (nth ps 0).A) (yk (nth ps 1).A),fun ps=>[zM5 (z8 (nth ps 0).A) (yk (nth ps 1).A) (zBQ (z8 (nth ps 0).A) (yk (nth ps 1).A)).2.1 (zBQ (z8 (nth ps 0).A) (yk (nth ps 1).A)).2.2],
 fun ps=>[(zBQ (z8 (nth ps 0).A) (yk (nth ps 1).A)).1.pv]⟩
theorem ze4:zh Tryz.prog 221 zJw:=by
 refine zP [0,1,3,4,5,6,7,8,9,62,63,64] [.cell 4 120] (zA (cs:=[]) zNR (zA (cs:=[]) zNS (zA (cs:=[]) zSM (zD (zB []))))) mixed Tryz.func221 rfl (by decide) rfl (by decide) rfl ?_
 intro ps hT hpre W hW
 simp only[zJw,TyA,Ty,Tys] at hT hpre
 obtain⟨_,_,rfl,⟨_,rfl,_,_,rfl,⟨n0,rfl,hn0⟩,_,_,rfl,⟨n1,rfl,hn1⟩,_,_,rfl,⟨n2,rfl,hn2⟩,_,_,rfl,⟨n3,rfl,hn3⟩,_,_,rfl,⟨n4,rfl,hn4⟩,_,_,rfl,⟨u,rfl⟩,_,_,rfl,⟨es,rfl,hes,tes⟩,_,_,rfl,⟨n5,rfl,hn5⟩,_,_,rfl,⟨n6,rfl,hn6⟩,_,_,rfl,⟨n7,rfl,hn7⟩,_,_,rfl,⟨vs,rfl,hvs,tvs⟩,_,_,rfl,⟨xs,rfl,hxs,txs⟩,_,_,rfl,⟨ms,rfl,hms,tms⟩,rfl⟩,_,_,rfl,⟨_,rfl,_,_,rfl,⟨m0,rfl,hm0⟩,_,_,rfl,⟨m1,rfl,hm1⟩,_,_,rfl,⟨m2,rfl,hm2⟩,_,_,rfl,⟨m3,rfl,hm3⟩,_,_,rfl,⟨m4,rfl,hm4⟩,_,_,rfl,⟨m5,rfl,hm5⟩,_,_,rfl,⟨m6,rfl,hm6⟩,_,_,rfl,⟨m7,rfl⟩,_,_,rfl,⟨m8,rfl,hm8,tm8⟩,rfl⟩,rfl⟩:=hT
 simp only[zE,zF,yp,zAA,zBE,zNq,z8,yk] at hpre
 refine hW.vc [(2,[],tkN [0,1,2,3,4,5,6] .done),(6,[],tkN [0,1,2,3,4,5,6,7,8,9,10,11,12,13,14,15,16,18,19] (alS 17 (tkN [20,21] .done))),(13,[],tkN [0,1,2,3,4,5,6,7,8,9,10,11,12,13,14,15,16,17,18,19] .done),(14,[11,14],tkN [0,1,2,3,4,5,7,8,9] (.alt 6 (alN [10,11] (tkN [12,13] (alS 14 .done))) (alN [10,6,11] (tkN [12,13] (alS 14 .done))))),(16,[7,9],tkN [0,2,6] (.alt 1 (.alt 3 (.alt 4 (tkN [5] (alS 7 (tkN [8] (alS 9 .done)))) (alS 7 (tkN [4,5,8] (alS 9 .done)))) (alS 7 (tkN [3,4,5,8] (alS 9 .done)))) (.alt 3 (.alt 1 (.alt 4 (tkN [5] (alS 7 (tkN [8] (alS 9 .done)))) (alS 7 (tkN [4,5,8] (alS 9 .done)))) (.alt 4 (.alt 1 (tkN [5] (alS 7 (tkN [8] (alS 9 .done)))) (alS 7 (tkN [1,5,8] (alS 9 .done)))) (alS 7 (tkN [1,4,5,8] (alS 9 .done))))) (alS 7 (tkN [1,3,4,5,8] (alS 9 .done)))))),(17,[13],tkN [0,1,2,3,4,5,6,7,8,9,10,11,12] (alS 13 .done))] _ _ ?_
 simp[-List.getD_eq_getElem?_getD,zJw,zEF,zCH,zDc,z8,yk,ND.pv,zM5,zGv]
 obtain⟨hF,p1,p2,p3,p4⟩:=hpre
 simp only at p1 p2 p3 p4
 obtain⟨nd,hnd⟩:∃nd:ND,nd=⟨n0,n1,n2,n3,n4,u,es,n5,n6,n7,vs,xs,ms⟩:=⟨_,rfl⟩
 obtain⟨mg,hmg⟩:∃mg:MG,mg=⟨m0,m1,m2,m3,m4,m5,m6,m7,m8⟩:=⟨_,rfl⟩
 have l6:es.length≤60:=hF.l6
 have k1:IntKind.i64.wrap (m4 - 1)=m4 - 1:=zC (by omega)
 rw[k1,←hnd,←hmg]
 have hno:((m3 < n2∨(es.length:Int) < m4)∨¬zCI es m4=m5)→zBQ nd mg=(zAW nd mg,mxI 0 (mnI es.length (m4 - 1)),false):=fun h=>by
  rw[zVQ (by rw[hnd,hmg];exact h),hnd,hmg]
 have hF1:m3=n2→zAW nd mg=⟨n0,n1,n2,n3,0,u,es,n5,0,n7,[],List.replicate n1.toNat (.int .i64 1),List.replicate n1.toNat (.int .i64 0)⟩:=fun h=>by
  rw[hnd,hmg,zAW,if_pos h];rfl
 have hF2:¬m3=n2→zAW nd mg=⟨n0,n1,n2,n3,n4,u,es,n5,n6,n7,vs,xs,ms⟩:=fun h=>by
  rw[hnd,hmg,zAW,if_neg h]
 refine fun _=>⟨by decide +kernel,fun h1=>⟨⟨hF.n1,hF.n5⟩,by decide +kernel,fun _ h=>⟨p1,h⟩,fun h2=>?_,fun h2 h3 h4 _=>?_⟩,fun h1=>⟨by decide +kernel,fun _ h=>⟨p1,h⟩,fun h2=>?_,fun h2=>absurd h2 (by omega)⟩⟩
 ·rw[hno h2,hF1 h1]
  exact⟨⟨rfl,rfl⟩,rfl,rfl,rfl,rfl,rfl,rfl,rfl,rfl,rfl,rfl,rfl,rfl,rfl⟩
 ·have hT:zBQ nd mg=(zPU (zAW nd mg) mg,m4+m8.length,true):=by
   rw[zSw (by rw[hnd,hmg];exact h2) (by rw[hnd,hmg];exact h3) (by rw[hnd,hmg];exact h4),hmg]
  rw[hF1 h1,hmg] at hT
  simp only[zPU] at hT
  rw[←hmg] at hT
  refine hW.loopS _ _ _ [.sl 64 .dp (.int .i64)] (fun ys=>∃i:Nat,ys=[.int .i64 i]∧i≤m8.length∧m4.toNat+i≤es.length∧zAD es m4.toNat m8=zAD es (m4.toNat+i) (m8.drop i)) (fun ys=>m8.length - (nth ys 0).I.toNat) ?_ ?_
  ·simp[-List.getD_eq_getElem?_getD,zJw,zEF,zCH,zDc]
   exact⟨0,rfl,by omega,by omega,rfl⟩
  ·rintro ys ⟨i,rfl,g1,g2,g3⟩
   refine hW.vc [(2,[],tkN [0,1,2,3,4,5,6] .done),(6,[],tkN [0,1,2,3,4,5,6,7,8,9,10,11,12,13,14,15,16,18,19] (alS 17 (tkN [20,21] .done))),(13,[],tkN [0,1,2,3,4,5,6,7,8,9,10,11,12,13,14,15,16,17,18,19] .done),(14,[11,14],tkN [0,1,2,3,4,5,7,8,9] (.alt 6 (alN [10,11] (tkN [12,13] (alS 14 .done))) (alN [10,6,11] (tkN [12,13] (alS 14 .done))))),(16,[7,9],tkN [0,2,6] (.alt 1 (.alt 3 (.alt 4 (tkN [5] (alS 7 (tkN [8] (alS 9 .done)))) (alS 7 (tkN [4,5,8] (alS 9 .done)))) (alS 7 (tkN [3,4,5,8] (alS 9 .done)))) (.alt 3 (.alt 1 (.alt 4 (tkN [5] (alS 7 (tkN [8] (alS 9 .done)))) (alS 7 (tkN [4,5,8] (alS 9 .done)))) (.alt 4 (.alt 1 (tkN [5] (alS 7 (tkN [8] (alS 9 .done)))) (alS 7 (tkN [1,5,8] (alS 9 .done)))) (alS 7 (tkN [1,4,5,8] (alS 9 .done))))) (alS 7 (tkN [1,3,4,5,8] (alS 9 .done)))))),(17,[13],tkN [0,1,2,3,4,5,6,7,8,9,10,11,12] (alS 13 .done))] _ _ ?_
   simp[-List.getD_eq_getElem?_getD,zJw,zEF,zCH,zDc,z8,yk,ND.pv,zM5,zGv]
   have e1:IntKind.i64.wrap (m4+(i:Int))=((m4.toNat+i:Nat):Int):=by rw[zC (by omega)];omega
   have e2:IntKind.i64.wrap (m4+(m8.length:Int))=m4+m8.length:=zC (by omega)
   rw[e1,e2,zC (n:=(i:Int)+1) (by omega),←hnd,←hmg,hT]
   obtain⟨k,hk⟩:∃k,k=m4.toNat+i:=⟨_,rfl⟩
   rw[←hk] at g2 g3 ⊢
   simp[mxI,mnI,g3]
   have hm:i < m8.length→es.length≤k∨¬(nth (nth es k).A 0).I=(nth (nth m8 i).A 0).I→es.take k++(m8.drop i).take (m8.length - i)=zAD es k (m8.drop i):=fun q1 q2=>by
    rw[List.take_of_length_le (l:=m8.drop i) (by simp),zG q1,zAD,if_neg (fun h=>q2.elim (fun h1=>absurd h.1 (Nat.not_lt.2 h1)) (fun h1=>h1 h.2))]
   refine⟨fun q1=>⟨q1,fun _ _ _=>⟨by decide +kernel,fun _ _=>⟨fun q2=>⟨by decide +kernel,⟨g2,fun _=>⟨by omega,fun _=>⟨by omega,fun _=>⟨by decide +kernel,fun _=>⟨by decide +kernel,hm q1 q2,rfl⟩⟩⟩⟩⟩,by omega,fun _=>⟨g2,fun _=>⟨by omega,fun _=>⟨by decide +kernel,fun _=>⟨by decide +kernel,hm q1 q2,rfl⟩⟩⟩⟩⟩,fun q2 q3=>⟨⟨i+1,rfl,by omega,by omega,?_⟩,by omega⟩⟩⟩⟩,fun q1=>⟨by decide +kernel,fun _=>⟨by decide +kernel,?_,rfl⟩⟩⟩
   ·have e:k+1=m4.toNat+(i+1):=by omega
    rw[zG q1,zAD,if_pos ⟨q2,q3⟩,e]
   ·rw[List.drop_eq_nil_of_le q1,zAD]
 ·rw[hno h2,hF2 h1]
  exact⟨⟨rfl,rfl⟩,rfl,rfl,rfl,rfl,rfl,rfl,rfl,rfl,rfl,rfl,rfl,rfl,rfl⟩
end
end Go.Proofs.YthogljppoiekaaaGreat
