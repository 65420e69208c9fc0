/-
  Part 40: contracts of functions, and the laws by which they are proved.
  Conditions: none.
-/
import Derived.Test.YthogljppoiekaaaGreatW39
import Derived.WalkKit
import Derived.ProofKit
import Derived.Shelf.SlicesE.Delete
set_option linter.unusedVariables false
set_option linter.unusedSimpArgs false
set_option linter.unusedSectionVars false
set_option maxRecDepth 100000
namespace Go.Proofs.YthogljppoiekaaaGreat
section
variable [zS]
theorem zRW(e:PV):yk [.int .i64 (nth e.A 0).I,.int .i64 (nth e.A 1).I,.int .i64 (nth e.A 2).I,.int .i64 (nth e.A 3).I,.int .i64 (nth e.A 4).I,.int .i64 (nth e.A 5).I,.int .i64 (nth e.A 6).I,.bool (nth e.A 7).B,.list (nth e.A 8).L]=yk e.A:=rfl
end
section
variable [zS]
theorem zeu(x:ND):z8 [.int .i64 x.id,.int .i64 x.nodes,.int .i64 x.term,.int .i64 x.vote,.int .i64 x.role,.bool x.up,.list x.log,.int .i64 x.com,.int .i64 x.ela,.int .i64 x.wt,.list x.vs,.list x.nx,.list x.ms]=x:=rfl
theorem zBd(ns ss ws ds:List PV):zFs [.list ns,.list ss,.list ws,.list ds]=⟨ns,ss,ws,ds⟩:=rfl
theorem zZ6{ws sent:List PV}(hw:ws.length≤60):(zLn ws sent).length≤60:=by
 simp only[zLn,List.length_append,List.length_take];omega
theorem zY1{ws sent:List PV}{j:Nat}(hw:ws.length≤60)(h:60≤(zLn ws (sent.take j)).length):zLn ws sent=zLn ws (sent.take j):=by
 simp only[zLn,List.length_append,List.length_take,List.take_take] at h ⊢
 congr 1
 rw[show min (60 - ws.length) j=60 - ws.length by omega]
attribute [local irreducible] ST.wk
def zE7:zJ:=⟨[(.rd,.agg [.list (.agg [.int .i64,.int .i64,.int .i64,.int .i64,.int .i64,.bool,.list (.agg [.int .i64,.str]),.int .i64,.int .i64,.int .i64,.list (.int .i64),.list (.int .i64),.list (.int .i64)]),.list (.agg [.str,.int .i64]),.list (.agg [.int .i64,.int .i64,.int .i64,.int .i64,.int .i64,.int .i64,.int .i64,.bool,.list (.agg [.int .i64,.str])]),.list .str]),(.rd,.agg [.int .i64,.int .i64,.int .i64,.int .i64,.int .i64,.bool,.list (.agg [.int .i64,.str]),.int .i64,.int .i64,.int .i64,.list (.int .i64),.list (.int .i64),.list (.int .i64)]),(.rd,.list (.agg [.int .i64,.int .i64,.int .i64,.int .i64,.int .i64,.int .i64,.int .i64,.bool,.list (.agg [.int .i64,.str])]))],[.agg [.list (.agg [.int .i64,.int .i64,.int .i64,.int .i64,.int .i64,.bool,.list (.agg [.int .i64,.str]),.int .i64,.int .i64,.int .i64,.list (.int .i64),.list (.int .i64),.list (.int .i64)]),.list (.agg [.str,.int .i64]),.list (.agg [.int .i64,.int .i64,.int .i64,.int .i64,.int .i64,.int .i64,.int .i64,.bool,.list (.agg [.int .i64,.str])]),.list .str],.int .i64],false,fun ps=>UpP (zFs (nth ps 0).A) (z8 (nth ps 1).A),
 fun ps=>[(zKm (zFs (nth ps 0).A) (z8 (nth ps 1).A) (nth ps 2).L).1.pv,.int .i64 (zKm (zFs (nth ps 0).A) (z8 (nth ps 1).A) (nth ps 2).L).2],fun _=>[]⟩
set_option maxHeartbeats 2000000 in
theorem zVo:zh Tryz.prog 94 zE7:=by
 refine zP [0,1,2,3,4,6,7,8,9,10,11] [.cell 6 29,.tmp 7] (zA (cs:=[]) zRZ (zA (cs:=[]) zOi (zA (cs:=[]) zGs (zD (zB []))))) mixed Tryz.func94 rfl (by decide) rfl (by decide) rfl ?_
 intro ps hT hpre W hW
 simp only[zE7,TyA,Ty,Tys] at hT hpre
 obtain⟨_,_,rfl,⟨_,rfl,_,_,rfl,⟨ns,rfl,hns,tns⟩,_,_,rfl,⟨ss,rfl,hss,tss⟩,_,_,rfl,⟨ws,rfl,hws,tws⟩,_,_,rfl,⟨ds,rfl,hds,tds⟩,rfl⟩,_,_,rfl,⟨_,rfl,_,_,rfl,⟨n0,rfl,hn0⟩,_,_,rfl,⟨n1,rfl,hn1⟩,_,_,rfl,⟨n2,rfl,hn2⟩,_,_,rfl,⟨n3,rfl,hn3⟩,_,_,rfl,⟨n4,rfl,hn4⟩,_,_,rfl,⟨u,rfl⟩,_,_,rfl,⟨es,rfl,hes,tes⟩,_,_,rfl,⟨n5,rfl,hn5⟩,_,_,rfl,⟨n6,rfl,hn6⟩,_,_,rfl,⟨n7,rfl,hn7⟩,_,_,rfl,⟨vs,rfl,hvs,tvs⟩,_,_,rfl,⟨xs,rfl,hxs,txs⟩,_,_,rfl,⟨ms,rfl,hms,tms⟩,rfl⟩,_,_,rfl,⟨sent,rfl,hsent,tsent⟩,rfl⟩:=hT
 simp only[zE,zF,zBE,zAA,zFs] at hpre
 obtain⟨wr,hwr⟩:∃wr,wr=zIt (zKD ss n0.toNat) (zBR (zD0 (yH ns n0.toNat)) ⟨n2,n3,es⟩):=⟨_,rfl⟩
 have hU:zKm ⟨ns,ss,ws,ds⟩ ⟨n0,n1,n2,n3,n4,u,es,n5,n6,n7,vs,xs,ms⟩ sent=if wr.2=true then (⟨ns.set n0.toNat (ND.pv ⟨n0,n1,n2,n3,n4,u,es,n5,n6,n7,vs,xs,ms⟩),ss.set n0.toNat (sto wr.1 wr.1.length),zLn ws sent,zFi ds es n5⟩,0) else (⟨ns,ss,ws,ds⟩,7):=by rw[hwr];rfl
 obtain⟨q1,q2,q3,q4,q5,q6,q7,q8,q9,q10⟩:=hpre
 have q1:0≤n0:=q1
 have q2:n0.toNat < ns.length:=q2
 have q3:ns.length≤5:=q3
 have q4:ss.length=ns.length:=q4
 have q5:(nth (nth ss n0.toNat).A 0).S.length≤60000:=q5
 have q6:(zD0 (yH ns n0.toNat)).wk:=q6
 have q7:(⟨n2,n3,es⟩:ST).wk:=q7
 have q8:n5≤es.length:=q8
 have q9:ws.length≤60:=q9
 have q10:ds.length≤60:=q10
 have q12:es.length≤100:=q7.len
 have q11:=zO4 (a:=zD0 (yH ns n0.toNat)) q7
 refine hW.vc [] _ _ ?_
 simp[-List.getD_eq_getElem?_getD,zE7,zc,zAT,zCU,zf]
 refine hW.cutS [_] _ _ [.nb 8 73 [.str,.int .i64],.sl 9 .dp (.int .i64)] (fun ys=>ys=[.agg [.str wr.1,.int .i64 (zQx ss n0.toNat)],.int .i64 (cond wr.2 0 7)]) ?_ ?_
 ·refine hW.vc [(1,[21],tkN [0,1,2,3,4,5,6,7,8,9,10,11,13] (.alt 12 (.alt 14 (.alt 15 (.alt 16 (tkN [17,18] (.alt 19 (alN [20,21,22] .done) (alS 20 (.alt 19 (alN [21,22] .done) (alS 21 (tkN [19] (alS 22 .done))))))) (alN [20,16] (tkN [17,18] (.alt 19 (alN [21,22] .done) (alS 21 (tkN [19] (alS 22 .done))))))) (alN [20,15,16] (tkN [17,18] (.alt 19 (alN [21,22] .done) (alS 21 (tkN [19] (alS 22 .done))))))) (alN [20,14,15,16] (tkN [17,18] (.alt 19 (alN [21,22] .done) (alS 21 (tkN [19] (alS 22 .done))))))) (alN [20,12,14,15,16] (tkN [17,18] (.alt 19 (alN [21,22] .done) (alS 21 (tkN [19] (alS 22 .done))))))))] _ _ ?_
  simp[-List.getD_eq_getElem?_getD,zE7,zc,zAT,zCU,zf,zc,zf,zEy]
  clear hW
  refine⟨by decide +kernel,?_⟩
  repeat' (first | apply And.intro | intro _)
  all_goals first
   | omega
   | assumption
   | exact q6
   | exact q11 _ (by assumption)
   | (rw[hwr];rfl)
   | rfl
   | trace_state
 rintro _ rfl
 have eP:(zKm (zFs [PV.list ns,PV.list ss,PV.list ws,PV.list ds]) (z8 [.int .i64 n0,.int .i64 n1,.int .i64 n2,.int .i64 n3,.int .i64 n4,.bool u,.list es,.int .i64 n5,.int .i64 n6,.int .i64 n7,.list vs,.list xs,.list ms]) sent)=zKm ⟨ns,ss,ws,ds⟩ ⟨n0,n1,n2,n3,n4,u,es,n5,n6,n7,vs,xs,ms⟩ sent:=rfl
 obtain⟨R,hR⟩:∃R,R=zKm ⟨ns,ss,ws,ds⟩ ⟨n0,n1,n2,n3,n4,u,es,n5,n6,n7,vs,xs,ms⟩ sent:=⟨_,rfl⟩
 rw[←hR] at hU
 refine hW.vc [] _ _ ?_
 simp[-List.getD_eq_getElem?_getD,zE7,zc,zAT,zCU,zf,eP,←hR,CL.pv]
 refine⟨fun h=>?_,fun h _=>?_⟩
 ·have hf:wr.2=false:=by
   cases hh:wr.2 with
   | false=>rfl
   | true=>rw[hh] at h;simp at h
  rw[if_neg (by simp[hf])] at hU
  rw[hU,hf];exact⟨⟨rfl,rfl,rfl,rfl⟩,rfl⟩
 have hwt:wr.2=true:=by
  cases hh:wr.2 with
  | false=>rw[hh] at h;simp at h
  | true=>rfl
 rw[if_pos hwt] at hU
 refine⟨by omega,⟨q1,by omega⟩,by omega,by omega,⟨q1,by omega⟩,q2,by omega,?_⟩
 refine hW.loopS2 _ _ _ [.bp 3 2 .sh (.list (.agg [.int .i64,.int .i64,.int .i64,.int .i64,.int .i64,.int .i64,.int .i64,.bool,.list (.agg [.int .i64,.str])])),.o (.sl 10 .dp (.int .i64))] (fun ys=>∃j:Nat,ys=[.list (zLn ws (sent.take j)),.int .i64 j]∧j≤sent.length) (fun ys=>sent.length - (nth ys 1).I.toNat) ?_ ?_
 ·simp[-List.getD_eq_getElem?_getD,zE7,zc,zAT,zCU,zf,zJp,zJo,zJr,zDa,zDR,zGu,zGD,zJq,zMi]
  exact⟨0,⟨(zT7 ws).symm,rfl⟩,by omega⟩
 ·rintro ys ⟨j,rfl,g1⟩
  have hsl:sent.length≤140737488355328:=hsent
  have w1:IntKind.i64.wrap ((j:Int)+1)=j+1:=zC (by omega)
  have al:=zZ6 (sent:=sent.take j) q9
  refine hW.vc [(13,[7,9],tkN [0,1,2,3,4,5] (alN [6,7] (tkN [8] (alS 9 .done))))] _ _ ?_
  simp[-List.getD_eq_getElem?_getD,zE7,zc,zAT,zCU,zf,zJp,zJo,zJr,zDa,zDR,zGu,zGD,zJq,zMi,w1]
  refine fun _ _=>⟨fun h1 h2=>?_,fun h1=>⟨by omega,?_⟩⟩
  ·clear hW
   have hs:=zT8 h1 q9
   obtain⟨_,he,_,_,rfl,⟨_,rfl,_⟩,_,_,rfl,⟨_,rfl,_⟩,_,_,rfl,⟨_,rfl,_⟩,_,_,rfl,⟨_,rfl,_⟩,_,_,rfl,⟨_,rfl,_⟩,_,_,rfl,⟨_,rfl,_⟩,_,_,rfl,⟨_,rfl,_⟩,_,_,rfl,⟨_,rfl⟩,_,_,rfl,⟨_,rfl,_,_⟩,rfl⟩:=tsent _ (zb h1)
   refine⟨by decide +kernel,h1,?_⟩
   intros
   refine⟨by omega,fun _=>⟨⟨j+1,⟨?_,by omega⟩,by omega⟩,by omega⟩⟩
   rw[hs,if_pos (by omega),he];rfl
  have eW:zLn ws (sent.take j)=zLn ws sent:=by
   by_cases hj:j < sent.length
   ·exact(zY1 q9 (by have:=h1 hj;omega)).symm
   ·rw[List.take_of_length_le (by omega)]
  rw[eW]
  refine hW.loopS _ _ _ [.sl 11 .dp (.list .str)] (fun ys=>∃i:Nat,ys=[.list (zFi ds es i)]∧ds.length≤i∧(i=ds.length∨(i:Int)≤n5)) (fun ys=>n5.toNat - (nth ys 0).L.length) ?_ ?_
  ·simp[-List.getD_eq_getElem?_getD,zE7,zc,zAT,zCU,zf]
   exact⟨ds.length,(zIl ds es (Int.le_refl _)).symm,by omega,.inl rfl⟩
  ·rintro ys ⟨i,rfl,g2,g3⟩
   have hl:(zFi ds es i).length=i:=by
    rcases g3 with g3 | g3
    ·rw[zIl ds es (by omega)];exact g3.symm
    ·exact zV7 (by omega) g2
   refine hW.vc [(1,[21],tkN [0,1,2,3,4,5,6,7,8,9,10,11,13] (.alt 12 (.alt 14 (.alt 15 (.alt 16 (tkN [17,18] (.alt 19 (alN [20,21,22] .done) (alS 20 (.alt 19 (alN [21,22] .done) (alS 21 (tkN [19] (alS 22 .done))))))) (alN [20,16] (tkN [17,18] (.alt 19 (alN [21,22] .done) (alS 21 (tkN [19] (alS 22 .done))))))) (alN [20,15,16] (tkN [17,18] (.alt 19 (alN [21,22] .done) (alS 21 (tkN [19] (alS 22 .done))))))) (alN [20,14,15,16] (tkN [17,18] (.alt 19 (alN [21,22] .done) (alS 21 (tkN [19] (alS 22 .done))))))) (alN [20,12,14,15,16] (tkN [17,18] (.alt 19 (alN [21,22] .done) (alS 21 (tkN [19] (alS 22 .done)))))))),(13,[7,9],tkN [0,1,2,3,4,5] (alN [6,7] (tkN [8] (alS 9 .done))))] _ _ ?_
   simp[-List.getD_eq_getElem?_getD,zE7,zc,zAT,zCU,zf,hl]
   refine fun _=>⟨fun h1 _=>⟨by omega,fun _=>⟨by omega,fun _=>⟨⟨i+1,?_,by omega,.inr (by omega)⟩,by omega⟩⟩⟩,fun h1=>?_⟩
   ·rw[←zT9 (by omega) g2];congr 1
   ·have e:zFi ds es i=zFi ds es n5:=by
     rcases g3 with g3 | g3
     ·rw[zIl ds es (by omega),zIl ds es (by omega)]
     ·rw[show n5=i by omega]
    rw[eP,←hR,hU,e];exact⟨rfl,rfl⟩
end
section
variable [zS]
open Go.Lib Go.RowKit Go.Sort
theorem zUE(cs:Array Value):(Builtin.zeroCells cs 1).toList=cs.toList:=by
 simp[Builtin.zeroCells]
 apply List.ext_getElem
 ·simp
 ·intro i h1 h2
  simp at h1 h2
  simp[Nat.mod_eq_of_lt h1,getElem!_pos cs i h1]
def zW3:List Value:=[.int .i64 0,.int .i64 0,.int .i64 0,.int .i64 0,.int .i64 0,.int .i64 0,.int .i64 0,.bool false,.slice none 0 0]
structure DelW (w w':World) (b t':Nat) (fr:Nat × Nat) (l:List Value):Prop where
 at_:w'.heap[b]?=some (.cells l.toArray t' fr)
 other:∀k,k≠b→w'.heap[k]?=w.heap[k]?
 os:w'.os=w.os
 tape:w'.tape=w.tape
 output:w'.output=w.output
 size:w'.heap.size=w.heap.size
theorem zai{P:Program}{E:Env}(h:zFj P E){t:Nat}{ti:TI}{d:TypeDesc}(h1:lk E.ty t=some ti)(h2:ti.d=d):P.underlying t=some d:=by
 rw[←h2];exact(h t ti h1).und
set_option maxHeartbeats 4000000 in
theorem zbw(w:World){b o n cap i t':Nat}{c:Array Value}{fr:Nat × Nat}(hb:w.heap[b]?=some (.cells c t' fr))(hfit:o+n*9≤c.size)(hfz:∀k,k < c.size→¬(fr.1≤k∧k < fr.2))(hone:∀v∈(c.toList.drop (o+(i+1)*9)).take ((n - (i+1))*9),v.oneCell'=true)(hi:i < n)(hcap:n≤cap)(hm:cap≤9223372036854775807) :
  Calls Tryz.prog 146 #[.slice (some ⟨b,o,none⟩) n cap,.int .i64 i,.int .i64 ((i:Int)+1)] w fun e w'=>e=.returned (.slice (some ⟨b,o,none⟩) (n - 1) cap)∧DelW w w' b t' fr (c.toList.take (o+i*9)++(c.toList.drop (o+(i+1)*9)).take ((n - (i+1))*9)++zW3++c.toList.drop (o+n*9)):=by
 have hT:zFj Tryz.prog ⟨zAo,[]⟩:=zB []
 obtain⟨i0,hi0,hz0,_⟩:=(hT 120 _ rfl).info
 have hz1:i0.size=9:=hz0
 obtain⟨news,hnews⟩:∃news,news=(c.toList.drop (o+(i+1)*9)).take ((n - (i+1))*9):=⟨_,rfl⟩
 have hlen:news.length=(n - (i+1))*9:=by rw[hnews,List.length_take,List.length_drop,Array.length_toList];omega
 have hcl:c.toList.length=c.size:=Array.length_toList
 have hat:∀k,k < c.size→w.drew.cell? ⟨b,k,none⟩=c[k]?:=fun k hk=>by
  show w.cell? _=_
  exact cell_of_row w b _ c t' fr hb
 have hget:∀k u,news[k]?=some u→c[o+(i+1)*9+k]?=some u∧k < (n - (i+1))*9:=fun k u hk=>by
  have hlt:=(List.getElem?_eq_some_iff.1 hk).1
  rw[hlen] at hlt
  rw[hnews,List.getElem?_take,if_pos hlt,List.getElem?_drop,Array.getElem?_toList] at hk
  exact⟨hk,hlt⟩
 obtain⟨A,hA,hsrc⟩:∃A:Addr,(if cap=i+1 then some (⟨b,o,none⟩:Addr) else some ⟨b,o+(i+1)*9,none⟩)=some A∧Hid (∀k u,news[k]?=some u→w.drew.cell? (A.add k)=some u):=by
  by_cases h:cap=i+1
  ·refine⟨⟨b,o,none⟩,by simp[h],fun k u hk=>?_⟩
   have:=(hget k u hk).2
   omega
  ·refine⟨⟨b,o+(i+1)*9,none⟩,by simp[h],fun k u hk=>?_⟩
   obtain⟨h1,h2⟩:=hget k u hk
   rw[Addr.add_lit,hat _ (by omega)]
   exact h1
 have s1:Hid (news.length=(n - (i+1))*9):=hlen
 have s2:Hid (∀u∈news,u.oneCell'=true):=fun u hu=>hone u (by rw[hnews] at hu;exact hu)
 have s3:Hid (∀k,k < news.length→(w.drew.cell? ⟨b,o+i*9+k,none⟩).isSome=true∧w.drew.frozen? ⟨b,o+i*9+k,none⟩=false):=by
  intro k hk
  rw[hlen] at hk
  rw[hat _ (by omega)]
  refine⟨by simp;omega,?_⟩
  show w.frozen? _=false
  simp[World.frozen?,hb]
  intro h
  have:=hfz (o+i*9+k) (by omega)
  omega
 obtain⟨W1,hW1⟩:∃W1,W1=w.drew.setCells b (o+i*9) news:=⟨_,rfl⟩
 have hW:Hid (W1=w.drew.setCells b (o+i*9) news):=hW1
 obtain⟨g2,g3,g4,g5,g6,g7⟩:=zEZ b t' fr news (o+i*9) c w.drew hb (by omega)
 rw[←hW1] at g2 g3 g4 g5 g6 g7
 generalize hc1:(c.toList.take (o+i*9)++news++c.toList.drop (o+i*9+news.length)).toArray=c1 at g2
 have hc1s:c1.size=c.size:=by rw[←hc1];simp;omega
 obtain⟨z,hz,hzc⟩:=zLW (hT 120 _ rfl) W1
 have hzl:z.cells.toList=[.int .i64 0,.int .i64 0,.int .i64 0,.int .i64 0,.int .i64 0,.int .i64 0,.int .i64 0,.bool false,.slice none 0 0]:=by rw[hzc];rfl
 obtain⟨W2,r1,r2,r3,r4,r5,r6,r7⟩:=zDM (P:=Tryz.prog) b t' fr z.cells.toList (o+(i+(n - (i+1)))*9) 0 c1 W1 g2 (by rw[hzl,hc1s];simp;omega) (fun k hk=>hfz k (by omega)) (fun v hv=>by rw[hzl] at hv;simp at hv;rcases hv with rfl | rfl | rfl<;>rfl)
 have e1:n - (i+(n - (i+1)))=1:=by omega
 have hclr:∀ty,(Builtin.clear_ #[26] ty #[.slice (some ⟨b,o+(i+(n - (i+1)))*9,none⟩) (n - (i+(n - (i+1)))) (cap - (i+(n - (i+1))))]).run Tryz.prog W1=.ok (.tuple #[]) W2:=by
  intro ty
  have hu:Tryz.prog.underlying 26=some (.slice 120):=zai hT rfl rfl
  rw[e1]
  simp[Builtin.clear_,run_underlying hu,hz,zUE,r1]
 have hjc:i+1≤cap:=by omega
 have hij:0≤(i:Int)+1∧(i:Int)+1≤n:=by omega
 have hmix:Tryz.prog.follows .mixedOrders=true:=mixed
 have hic:i≤cap:=by omega
 have X:Aside (DelW w W2 b t' fr (c.toList.take (o+i*9)++(c.toList.drop (o+(i+1)*9)).take ((n - (i+1))*9)++zW3++c.toList.drop (o+n*9))):=by
  refine⟨?_,fun k hk=>(r3 k hk).trans (g3 k hk),r4.trans g4,r5.trans g5,r6.trans g6,r7.trans g7⟩
  rw[r2,←hc1,hzl,←hnews]
  have hp:(c.toList.take (o+i*9)).length=o+i*9:=by rw[List.length_take];omega
  have h1:(c.toList.take (o+i*9)++news++c.toList.drop (o+i*9+news.length)).take (o+(i+(n - (i+1)))*9+0)=c.toList.take (o+i*9)++news:=
   List.take_left' (by rw[List.length_append,hp];omega)
  have h2:(c.toList.take (o+i*9)++news++c.toList.drop (o+i*9+news.length)).drop (o+(i+(n - (i+1)))*9+0+9)=c.toList.drop (o+n*9):=by
   rw[←List.drop_drop,List.drop_left' (by rw[List.length_append,hp];omega),List.drop_drop]
   congr 1;omega
  show some (Obj.cells ((c.toList.take (o+i*9)++news++c.toList.drop (o+i*9+news.length)).take (o+(i+(n - (i+1)))*9+0)++zW3++(c.toList.take (o+i*9)++news++c.toList.drop (o+i*9+news.length)).drop (o+(i+(n - (i+1)))*9+0+9)).toArray t' fr)=_
  rw[h1,h2]
 clear e1 hat hget hone hfz hW1 hnews hlen g2 g3 g4 g5 g6 g7 r1 r2 r3 r4 r5 r6 r7 hc1 hc1s hz hzc hzl
 go_enter Tryz.func146,Tryz.ntmps146
 go_wp2_with fail
 go_region_law_o (refine step_append_room rfl (.tmp 22) (.tmp 25) _ rfl 120 i0 9 (by exact zai hT rfl rfl) hi0 hz1 b o i cap (by simp[Act.eval,Act.put]) A (n - (i+1)) (cap - (i+1)) news (by simp[Act.eval,Act.put]) s1.out hsrc.out s2.out (by omega) s3.out ?_;rw[←hW.out])
 go_wp2
 go_ret
 exact⟨by rw[show n - 1=i+(n - (i+1)) by omega];rfl,X⟩
theorem zVj{w:World}{Ts T1 T2:List PTy}{ps p1 p2:List PV}{vs:List Value}{f:List Nat}(h:Lo w Ts ps vs f)(e1:Ts=T1++T2)(e2:ps=p1++p2)(hl:T1.length=p1.length) :
  ∃v1 v2 f1 f2,vs=v1++v2∧f=f1++f2∧Lo w T1 p1 v1 f1∧Lo w T2 p2 v2 f2:=by
 obtain⟨fs,rfl,h⟩:=h
 obtain⟨v1,v2,g1,g2,a1,a2,a3,a4⟩:=h.split e1 e2 hl
 exact⟨v1,v2,g1.flatten,g2.flatten,a1,by rw[a2,List.flatten_append],⟨g1,rfl,a3⟩,⟨g2,rfl,a4⟩⟩
theorem ze1{w:World}{T1 T2:List PTy}{p1 p2:List PV}{v1 v2:List Value}{f1 f2:List Nat}(h:Lo w T1 p1 v1 f1)(g:Lo w T2 p2 v2 f2):Lo w (T1++T2) (p1++p2) (v1++v2) (f1++f2):=by
 obtain⟨g1,rfl,h⟩:=h
 obtain⟨g2,rfl,g⟩:=g
 exact⟨g1++g2,by rw[List.flatten_append],h.append g⟩
theorem zbx{w:World}{v:Value}{es:List PV}{f:List Nat}(hD:zIn w v (.agg [.int .i64,.int .i64,.int .i64,.int .i64,.int .i64,.int .i64,.int .i64,.bool,.list (.agg [.int .i64,.str])]) es f)(hnd:f.Nodup){i:Nat}(hi:i < es.length) :
  ∃b f1 f2 f3 c2,f=b :: (f1++(f2++f3))∧Lo w (yf (.agg [.int .i64,.int .i64,.int .i64,.int .i64,.int .i64,.int .i64,.int .i64,.bool,.list (.agg [.int .i64,.str])]) 1) (yb [nth es i]) c2 f2∧(∀j u,j < 9→zTv w v (i*9+j) u→c2[j]?=some u)∧Calls Tryz.prog 146 #[v,.int .i64 i,.int .i64 ((i:Int)+1)] w fun e w'=>∃v',e=.returned v'∧zIn w' v' (.agg [.int .i64,.int .i64,.int .i64,.int .i64,.int .i64,.int .i64,.int .i64,.bool,.list (.agg [.int .i64,.str])]) (es.eraseIdx i) (b :: (f1++f3)) ∧
   (∀k,k≠b→w'.heap[k]?=w.heap[k]?)∧w'.os=w.os∧w'.tape=w.tape∧w'.output=w.output∧w'.heap.size=w.heap.size:=by
 rcases hD with ⟨rfl,_⟩ | ⟨b,f0,cs,rfl,hR,hS,hL⟩
 ·simp at hi
 obtain⟨⟨o,cap,c,t',fr,rfl,hblk,hfit,hncap,hmx,hfz,hcs⟩,hlen,hlim⟩:=hR
 have hwd:(.agg [.int .i64,.int .i64,.int .i64,.int .i64,.int .i64,.int .i64,.int .i64,.bool,.list (.agg [.int .i64,.str])]:PTy).wd=9:=rfl
 rw[hwd] at hfit hlen
 have eE:es=es.take i++([nth es i]++es.drop (i+1)):=by
  conv=>lhs;rw[←List.take_append_drop i es,zG hi]
  rfl
 have hS1:∀e∈es.take i,Shp (.agg [.int .i64,.int .i64,.int .i64,.int .i64,.int .i64,.int .i64,.int .i64,.bool,.list (.agg [.int .i64,.str])]) e:=fun e he=>hS e (List.mem_of_mem_take he)
 have hS3:∀e∈es.drop (i+1),Shp (.agg [.int .i64,.int .i64,.int .i64,.int .i64,.int .i64,.int .i64,.int .i64,.bool,.list (.agg [.int .i64,.str])]) e:=fun e he=>hS e (List.mem_of_mem_drop he)
 have hS2:∀e∈[nth es i],Shp (.agg [.int .i64,.int .i64,.int .i64,.int .i64,.int .i64,.int .i64,.int .i64,.bool,.list (.agg [.int .i64,.str])]) e:=fun e he=>by rw[List.mem_singleton.1 he];exact hS _ (zb hi)
 have eT:yf (.agg [.int .i64,.int .i64,.int .i64,.int .i64,.int .i64,.int .i64,.int .i64,.bool,.list (.agg [.int .i64,.str])]) es.length=yf (.agg [.int .i64,.int .i64,.int .i64,.int .i64,.int .i64,.int .i64,.int .i64,.bool,.list (.agg [.int .i64,.str])]) i++(yf (.agg [.int .i64,.int .i64,.int .i64,.int .i64,.int .i64,.int .i64,.int .i64,.bool,.list (.agg [.int .i64,.str])]) 1++yf (.agg [.int .i64,.int .i64,.int .i64,.int .i64,.int .i64,.int .i64,.int .i64,.bool,.list (.agg [.int .i64,.str])]) (es.length - (i+1))):=by
  rw[←zBZ,←zBZ];congr 1;omega
 have eP:yb es=yb (es.take i)++(yb [nth es i]++yb (es.drop (i+1))):=by
  rw[←zAn,←zAn,←eE]
 have lt:(es.take i).length=i:=by rw[List.length_take];omega
 obtain⟨c1,cr,f1,fr',rfl,rfl,l1,lr⟩:=zVj hL eT eP (by rw[zCd,zBm hS1,lt])
 obtain⟨c2,c3,f2,f3,rfl,rfl,l2,l3⟩:=zVj lr rfl rfl (by rw[zCd,zBm hS2];rfl)
 have z1:c1.length=i*9:=by rw[l1.lv.lens.2,zBm hS1,lt,hwd]
 have z2:c2.length=9:=by rw[l2.lv.lens.2,zBm hS2,hwd];rfl
 have z3:c3.length=(es.length - (i+1))*9:=by rw[l3.lv.lens.2,zBm hS3,hwd,List.length_drop]
 have q1:(c.toList.drop o).take (i*9)=c1:=by
  have:=congrArg (List.take (i*9)) hcs
  rwa[List.take_take,Nat.min_eq_left (by simp only[List.length_append];omega),List.take_left' z1] at this
 have q3:(c.toList.drop (o+(i+1)*9)).take ((es.length - (i+1))*9)=c3:=by
  have:=congrArg (List.drop (i*9+9)) hcs
  rw[List.drop_take,List.drop_drop,←List.drop_drop (l:=c1++(c2++c3)),List.drop_left' z1,List.drop_left' z2] at this
  rw[←this]
  have ea:o+(i+1)*9=o+(i*9+9):=by omega
  have eb:(c1++(c2++c3)).length - (i*9+9)=(es.length - (i+1))*9:=by simp only[List.length_append];omega
  rw[ea,eb]
 refine⟨b,f1,f2,f3,c2,rfl,l2,fun j u hj hc=>?_,?_⟩
 ·obtain⟨b',o',cc,tt,ff,d1,d2,d3⟩:=hc
  simp only[zIk,Option.some.injEq,Prod.mk.injEq] at d1
  obtain⟨rfl,rfl⟩:=d1
  rw[hblk] at d2
  simp only[Option.some.injEq,Obj.cells.injEq] at d2
  obtain⟨rfl,_,_⟩:=d2
  have h1:(c1++(c2++c3))[i*9+j]?=some u:=by
   rw[←hcs,List.getElem?_take,if_pos (by simp only[List.length_append];omega),List.getElem?_drop,Array.getElem?_toList]
   exact d3
  rw[List.getElem?_append_right (by omega),z1,Nat.add_sub_cancel_left,List.getElem?_append_left (by omega)] at h1
  exact h1
 have hmx2:cap≤9223372036854775807:=hmx
 refine(zbw w (n:=es.length) (i:=i) (cap:=cap) hblk (by omega) hfz.1 (fun x hx=>by rw[q3] at hx;exact zTK l3.lv x hx) hi hncap hmx2).mono ?_
 rintro e w' ⟨rfl,hW⟩
 have hb1:∀k∈f1,w'.heap[k]?=w.heap[k]?:=fun k hk=>hW.other k fun e=>by subst e;simp[hk] at hnd
 have hb3:∀k∈f3,w'.heap[k]?=w.heap[k]?:=fun k hk=>hW.other k fun e=>by subst e;simp[hk] at hnd
 have el:(es.eraseIdx i).length=es.length - 1:=List.length_eraseIdx_of_lt hi
 have ee:es.eraseIdx i=es.take i++es.drop (i+1):=List.eraseIdx_eq_take_drop_succ ..
 have hlo:Lo w' (yf (.agg [.int .i64,.int .i64,.int .i64,.int .i64,.int .i64,.int .i64,.int .i64,.bool,.list (.agg [.int .i64,.str])]) (es.eraseIdx i).length) (yb (es.eraseIdx i)) (c1++c3) (f1++f3):=by
  have:=ze1 (l1.frame hb1) (l3.frame hb3)
  rw[←zBZ,←zAn] at this
  rw[el,ee,show es.length - 1=i+(es.length - (i+1)) by omega]
  exact this
 have hsz:(c.toList.take (o+i*9)++(c.toList.drop (o+(i+1)*9)).take ((es.length - (i+1))*9)++zW3++c.toList.drop (o+es.length*9)).length=c.size:=by
  simp only[List.length_append,List.length_take,List.length_drop,Array.length_toList]
  have:zW3.length=9:=rfl
  omega
 refine⟨_,rfl,.inr ⟨b,f1++f3,c1++c3,rfl,⟨⟨o,cap,_,t',fr,by rw[el],hW.at_,?_,by rw[el];omega,hmx,?_,?_⟩,?_,by rw[el];omega⟩,fun e he=>hS e (List.mem_of_mem_eraseIdx he),hlo⟩,hW.other,hW.os,hW.tape,hW.output,hW.size⟩
 ·rw[hwd,List.size_toArray,hsz];exact hfit
 ·exact hfz.cast (by rw[List.size_toArray,hsz])
 ·rw[List.toList_toArray,q3]
  have p1:c.toList.take (o+i*9)=c.toList.take o++c1:=by rw[List.take_add,q1]
  have p0:(c.toList.take o).length=o:=by rw[List.length_take,Array.length_toList];omega
  rw[p1,List.append_assoc,List.append_assoc,List.append_assoc,List.drop_left' p0,←List.append_assoc,List.take_left' rfl]
 ·rw[el,hwd,List.length_append];omega
theorem zbg{O:Value→PTy→List PV→List Nat→Prop}{Ts:List PTy}{ps:List PV}{vs:List Value}{fs:List (List Nat)}(h:LoP O Ts ps vs fs):∀{j:Nat} {T:PTy} {es:List PV} {u:Value},Ts[j]?=some (.list T)→ps[j]?=some (.list es)→vs[j]?=some u→∃g,g∈fs∧O u T es g:=by
 induction h with
 | nil=>intro j T es u h1;simp at h1
 | int h1 _ ih=>
  intro j T es u a b c
  cases j with
  | zero=>simp at a
  | succ j=>
   obtain⟨g,g1,g2⟩:=ih (by simpa using a) (by simpa using b) (by simpa using c)
   exact⟨g,by simp[g1],g2⟩
 | bool _ ih=>
  intro j T es u a b c
  cases j with
  | zero=>simp at a
  | succ j=>
   obtain⟨g,g1,g2⟩:=ih (by simpa using a) (by simpa using b) (by simpa using c)
   exact⟨g,by simp[g1],g2⟩
 | str h1 _ ih=>
  intro j T es u a b c
  cases j with
  | zero=>simp at a
  | succ j=>
   obtain⟨g,g1,g2⟩:=ih (by simpa using a) (by simpa using b) (by simpa using c)
   exact⟨g,by simp[g1],g2⟩
 | list h1 _ ih=>
  intro j T es u a b c
  cases j with
  | zero=>
   simp at a b c
   subst a;subst b;subst c
   exact⟨_,by simp,h1⟩
  | succ j=>
   obtain⟨g,g1,g2⟩:=ih (by simpa using a) (by simpa using b) (by simpa using c)
   exact⟨g,by simp[g1],g2⟩
theorem zbh{w:World}{Ts:List PTy}{ps:List PV}{vs:List Value}{f:List Nat}(h:Lo w Ts ps vs f){j:Nat}{T:PTy}{es:List PV}{u:Value}(h1:Ts[j]?=some (.list T))(h2:ps[j]?=some (.list es))(h3:vs[j]?=some u):∃g,(∀k∈g,k∈f)∧Lv w [.list T] [.list es] [u] g:=by
 obtain⟨fs,rfl,h⟩:=h
 obtain⟨g,g1,g2⟩:=zbg h h1 h2 h3
 refine⟨g,fun k hk=>List.mem_flatten.2 ⟨g,g1,hk⟩,?_⟩
 have:Lo w [.list T] [.list es] [u] ([g].flatten):=⟨[g],rfl,.list g2 .nil⟩
 simpa using this.lv
end
end Go.Proofs.YthogljppoiekaaaGreat
