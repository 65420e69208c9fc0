/-
  Part 39: contracts of functions, and the laws by which they are proved.
  Conditions: none.
-/
import Derived.Test.YthogljppoiekaaaGreatW30
import Derived.Test.YthogljppoiekaaaGreatW34
import Derived.Test.YthogljppoiekaaaGreatW36
import Derived.Test.YthogljppoiekaaaGreatW37
import Derived.Test.YthogljppoiekaaaGreatW38
set_option linter.unusedVariables false
set_option linter.unusedSimpArgs false
set_option linter.unusedSectionVars false
set_option maxRecDepth 100000
namespace Go.Proofs.YthogljppoiekaaaGreat
section
variable [zS]
theorem zT7(ws:List PV):zLn ws []=ws:=by simp[zLn]
theorem zT8{ws sent:List PV}{j:Nat}(h:j < sent.length)(hw:ws.length≤60):zLn ws (sent.take (j+1))=if (zLn ws (sent.take j)).length < 60 then zLn ws (sent.take j)++[nth sent j] else zLn ws (sent.take j):=by
 simp only[zLn,List.length_append,List.length_take,List.take_take]
 split
 ·rename_i h1
  have e1:min (60 - ws.length) (j+1)=j+1:=by omega
  have e2:min (60 - ws.length) j=j:=by omega
  rw[e1,e2,zd h,List.append_assoc]
 ·rename_i h1
  have e1:min (60 - ws.length) (j+1)=min (60 - ws.length) j:=by omega
  rw[e1]
theorem zIl(ds es:List PV){i:Int}(h:i≤ds.length):zFi ds es i=ds:=by
 rw[zFi,List.drop_eq_nil_of_le (by rw[List.length_take];omega)];simp
theorem zT9{ds es:List PV}{i:Nat}(h:i < es.length)(hd:ds.length≤i):zFi ds es ((i:Int)+1)=zFi ds es i++[.str (nth (nth es i).A 1).S]:=by
 have e:((i:Int)+1).toNat=i+1:=by omega
 rw[zFi,zFi,e,Int.toNat_natCast,zd h,List.drop_append_of_le_length (by rw[List.length_take];omega),List.map_append,List.append_assoc]
 rfl
theorem zV7{ds es:List PV}{i:Nat}(h:i≤es.length)(hd:ds.length≤i):(zFi ds es i).length=i:=by
 rw[zFi,Int.toNat_natCast];simp;omega
theorem ST.wk.len{s:ST}(h:s.wk):s.log.length≤100:=h.2.2.1
attribute [local irreducible] ST.wk
def zBz:zJ:=⟨[(.bx,.box [.list (.agg [.int .i64,.int .i64,.int .i64,.int .i64,.int .i64,.bool,.list (.agg [.int .i64,.str]),.int .i64,.int .i64,.int .i64,.list (.int .i64),.list (.int .i64),.list (.int .i64)]),.list (.agg [.str,.int .i64]),.list (.agg [.int .i64,.int .i64,.int .i64,.int .i64,.int .i64,.int .i64,.int .i64,.bool,.list (.agg [.int .i64,.str])]),.list .str]),(.ow,.agg [.int .i64,.int .i64,.int .i64,.int .i64,.int .i64,.bool,.list (.agg [.int .i64,.str]),.int .i64,.int .i64,.int .i64,.list (.int .i64),.list (.int .i64),.list (.int .i64)]),(.ow,.list (.agg [.int .i64,.int .i64,.int .i64,.int .i64,.int .i64,.int .i64,.int .i64,.bool,.list (.agg [.int .i64,.str])]))],[.int .i64],true,fun ps=>UpP (zFs (nth ps 0).A) (z8 (nth ps 1).A),fun ps=>[.int .i64 (zKm (zFs (nth ps 0).A) (z8 (nth ps 1).A) (nth ps 2).L).2],fun ps=>[(zKm (zFs (nth ps 0).A) (z8 (nth ps 1).A) (nth ps 2).L).1.pv]⟩
set_option maxHeartbeats 2000000 in
theorem zVm:zh Tryz.prog 148 zBz:=by
 refine zIU [0,1,2,4,6,7,8,10,11,59,60,61] [.tmp 6] _ mG (zA (cs:=[]) zTO (zA (cs:=[]) zQK (zA (cs:=[]) zTP (zD (zB []))))) mixed Tryz.func148 rfl (by decide) rfl (by decide) rfl ?_
 intro ps hT hpre W hW hB
 simp only[zBz,TyA,Ty,Tys] at hT hpre
 obtain⟨_,_,rfl,⟨_,rfl,_,_,rfl,⟨ns,rfl,hns,tns⟩,_,_,rfl,⟨ss,rfl,hss,tss⟩,_,_,rfl,⟨ws,rfl,hws,tws⟩,_,_,rfl,⟨ds,rfl,hds,tds⟩,rfl⟩,_,_,rfl,⟨_,rfl,_,_,rfl,⟨n0,rfl,hn0⟩,_,_,rfl,⟨n1,rfl,hn1⟩,_,_,rfl,⟨n2,rfl,hn2⟩,_,_,rfl,⟨n3,rfl,hn3⟩,_,_,rfl,⟨n4,rfl,hn4⟩,_,_,rfl,⟨u,rfl⟩,_,_,rfl,⟨es,rfl,hes,tes⟩,_,_,rfl,⟨n5,rfl,hn5⟩,_,_,rfl,⟨n6,rfl,hn6⟩,_,_,rfl,⟨n7,rfl,hn7⟩,_,_,rfl,⟨vs,rfl,hvs,tvs⟩,_,_,rfl,⟨xs,rfl,hxs,txs⟩,_,_,rfl,⟨ms,rfl,hms,tms⟩,rfl⟩,_,_,rfl,⟨sent,rfl,hsent,tsent⟩,rfl⟩:=hT
 simp only[zE,zF,zBE,zAA,zFs] at hpre
 obtain⟨wr,hwr⟩:∃wr,wr=zIt (zKD ss n0.toNat) (zBR (zD0 (yH ns n0.toNat)) ⟨n2,n3,es⟩):=⟨_,rfl⟩
 have hU:zKm ⟨ns,ss,ws,ds⟩ ⟨n0,n1,n2,n3,n4,u,es,n5,n6,n7,vs,xs,ms⟩ sent=if wr.2=true then (⟨ns.set n0.toNat (ND.pv ⟨n0,n1,n2,n3,n4,u,es,n5,n6,n7,vs,xs,ms⟩),ss.set n0.toNat (sto wr.1 wr.1.length),zLn ws sent,zFi ds es n5⟩,0) else (⟨ns,ss,ws,ds⟩,7):=by rw[hwr];rfl
 obtain⟨q1,q2,q3,q4,q5,q6,q7,q8,q9,q10⟩:=hpre
 have q1:0≤n0:=q1
 have q2:n0.toNat < ns.length:=q2
 have q4:ss.length=ns.length:=q4
 have q5:(nth (nth ss n0.toNat).A 0).S.length≤60000:=q5
 have q6:(zD0 (yH ns n0.toNat)).wk:=q6
 have q7:(⟨n2,n3,es⟩:ST).wk:=q7
 have q8:n5≤es.length:=q8
 have q9:ws.length≤60:=q9
 have q10:ds.length≤60:=q10
 have q12:es.length≤100:=q7.len
 have q11:=zO4 (a:=zD0 (yH ns n0.toNat)) q7
 refine hW.vc [] _ _ ?_
 simp[-List.getD_eq_getElem?_getD,zBz,zBc,zf,zAI,zc]
 refine hW.cutS [_] _ _ [.nb 7 73 [.str,.int .i64],.sl 8 .dp .bool] (fun ys=>ys=[.agg [.str (cond wr.2 wr.1 []),.int .i64 (cond wr.2 (zQx ss n0.toNat) 0)],.bool wr.2]) ?_ ?_
 ·refine hW.vc [(1,[25],tkN [0,1,2,3,4,5,6,7,8,9,10,11,12,13,14,15,17] (.alt 16 (.alt 18 (.alt 19 (.alt 20 (tkN [21,22] (.alt 23 (alN [24,25,26] .done) (alS 24 (.alt 23 (alN [25,26] .done) (alS 25 (tkN [23] (alS 26 .done))))))) (alN [24,20] (tkN [21,22] (.alt 23 (alN [25,26] .done) (alS 25 (tkN [23] (alS 26 .done))))))) (alN [24,19,20] (tkN [21,22] (.alt 23 (alN [25,26] .done) (alS 25 (tkN [23] (alS 26 .done))))))) (alN [24,18,19,20] (tkN [21,22] (.alt 23 (alN [25,26] .done) (alS 25 (tkN [23] (alS 26 .done))))))) (alN [24,16,18,19,20] (tkN [21,22] (.alt 23 (alN [25,26] .done) (alS 25 (tkN [23] (alS 26 .done))))))))] _ _ ?_
  simp[-List.getD_eq_getElem?_getD,zBz,zBc,zf,zAI,zc,zc,zEy]
  clear hW
  refine⟨by decide +kernel,?_⟩
  repeat' (first | apply And.intro | intro _)
  all_goals first
   | omega
   | assumption
   | exact q6
   | exact q11 _ (by assumption)
   | (rw[hwr];rfl)
   | trace_state
 rintro _ rfl
 refine hW.vc [] _ _ ?_
 simp[-List.getD_eq_getElem?_getD,zBz,zBc,zf,zAI,zc]
 have eP:(zKm (zFs [PV.list ns,PV.list ss,PV.list ws,PV.list ds]) (z8 [.int .i64 n0,.int .i64 n1,.int .i64 n2,.int .i64 n3,.int .i64 n4,.bool u,.list es,.int .i64 n5,.int .i64 n6,.int .i64 n7,.list vs,.list xs,.list ms]) sent)=zKm ⟨ns,ss,ws,ds⟩ ⟨n0,n1,n2,n3,n4,u,es,n5,n6,n7,vs,xs,ms⟩ sent:=rfl
 rw[eP,hU]
 refine⟨fun h=>by rw[h];exact⟨rfl,rfl⟩,fun hwt=>?_⟩
 rw[hwt]
 simp only[cond_true,if_true]
 refine hW.cutS [_] _ _ [.bx 0 [.list (.agg [.int .i64,.int .i64,.int .i64,.int .i64,.int .i64,.bool,.list (.agg [.int .i64,.str]),.int .i64,.int .i64,.int .i64,.list (.int .i64),.list (.int .i64),.list (.int .i64)]),.list (.agg [.str,.int .i64]),.list (.agg [.int .i64,.int .i64,.int .i64,.int .i64,.int .i64,.int .i64,.int .i64,.bool,.list (.agg [.int .i64,.str])]),.list .str]] (fun ys=>ys=[.agg [.list ns,.list (ss.set n0.toNat (sto wr.1 wr.1.length)),.list ws,.list ds]]) ?_ ?_
 ·refine hW.vc [(4,[13],tkN [0,1,2,3,4,5,6,7,8,9,10,11,12] (alS 13 .done))] _ _ ?_
  simp[-List.getD_eq_getElem?_getD,zBz,zBc,zf,zAI,zc]
  clear hW
  exact⟨by decide +kernel,fun _=>⟨⟨q1,by omega⟩,by omega,rfl⟩⟩
 rintro _ rfl
 refine hW.vc [] _ _ ?_
 simp[-List.getD_eq_getElem?_getD,zBz,zBc,zf,zAI,zc]
 refine hB.pln 6 [8] (.take 0 <| .take 1 <| .take 2 <| .take 3 <| .take 4 <| .take 5 <| .take 6 <| .take 7 <| .one 8 <| .done) _ _ _ _ (by decide +kernel) ?_
 simp[-List.getD_eq_getElem?_getD,zBz,zBc,zf,zAI,zc,vcH,mRes]
 refine⟨⟨q1,by omega⟩,q2,by rw[zDG q2];rfl,?_⟩
 refine hW.vc [(1,[25],tkN [0,1,2,3,4,5,6,7,8,9,10,11,12,13,14,15,17] (.alt 16 (.alt 18 (.alt 19 (.alt 20 (tkN [21,22] (.alt 23 (alN [24,25,26] .done) (alS 24 (.alt 23 (alN [25,26] .done) (alS 25 (tkN [23] (alS 26 .done))))))) (alN [24,20] (tkN [21,22] (.alt 23 (alN [25,26] .done) (alS 25 (tkN [23] (alS 26 .done))))))) (alN [24,19,20] (tkN [21,22] (.alt 23 (alN [25,26] .done) (alS 25 (tkN [23] (alS 26 .done))))))) (alN [24,18,19,20] (tkN [21,22] (.alt 23 (alN [25,26] .done) (alS 25 (tkN [23] (alS 26 .done))))))) (alN [24,16,18,19,20] (tkN [21,22] (.alt 23 (alN [25,26] .done) (alS 25 (tkN [23] (alS 26 .done)))))))),(4,[13],tkN [0,1,2,3,4,5,6,7,8,9,10,11,12] (alS 13 .done)),(5,[8],tkN [0,1,2,3,4,5,6,7] (alS 8 .done)),(10,[7,10],tkN [0,1,2,3,4,5] (alN [6,7] (tkN [8,9] (alS 10 .done)))),(15,[12,15],tkN [0,1,2,3,4,5,6,7,8,9,10] (alN [11,12] (tkN [13,14] (alS 15 .done))))] _ _ ?_
 simp[-List.getD_eq_getElem?_getD,zBz,zBc,zf,zAI,zc]
 refine fun _=>hW.loopS2 _ _ _ [.bp 0 2 .dp (.list (.agg [.int .i64,.int .i64,.int .i64,.int .i64,.int .i64,.int .i64,.int .i64,.bool,.list (.agg [.int .i64,.str])])),.o (.cu 59),.o (.sl 61 .dp (.int .i64))] (fun ys=>∃j:Nat,ys=[.list (zLn ws (sent.take j)),.int .i64 j,.int .i64 j]∧j≤sent.length) (fun ys=>sent.length - (nth ys 1).I.toNat) ?_ ?_
 ·simp[-List.getD_eq_getElem?_getD,zBz,zBc,zf,zAI,zc,zJp,zJo,zJr,zDa,zDR,zGu,zGD,zJq,zMi]
  exact⟨0,⟨(zT7 ws).symm,rfl⟩,by omega⟩
 ·rintro ys ⟨j,rfl,g1⟩
  have w1:IntKind.i64.wrap ((j:Int)+1)=j+1:=zC (by omega)
  refine hW.vc [(10,[7,10],tkN [0,1,2,3,4,5] (alN [6,7] (tkN [8,9] (alS 10 .done)))),(15,[12,15],tkN [0,1,2,3,4,5,6,7,8,9,10] (alN [11,12] (tkN [13,14] (alS 15 .done))))] _ _ ?_
  simp[-List.getD_eq_getElem?_getD,zBz,zBc,zf,zAI,zc,zJp,zJo,zJr,zDa,zDR,zGu,zGD,zJq,zMi,w1]
  refine⟨fun h=>⟨h,?_⟩,fun h _=>?_⟩
  ·clear hW hB
   have hs:=zT8 h q9
   obtain⟨_,he,_,_,rfl,⟨_,rfl,_⟩,_,_,rfl,⟨_,rfl,_⟩,_,_,rfl,⟨_,rfl,_⟩,_,_,rfl,⟨_,rfl,_⟩,_,_,rfl,⟨_,rfl,_⟩,_,_,rfl,⟨_,rfl,_⟩,_,_,rfl,⟨_,rfl,_⟩,_,_,rfl,⟨_,rfl⟩,_,_,rfl,⟨_,rfl,_,_⟩,rfl⟩:=tsent _ (zb h)
   intros
   refine⟨fun h1=>⟨by decide +kernel,by omega,fun _=>⟨⟨j+1,⟨?_,by omega⟩,by omega⟩,by omega⟩⟩,fun h1=>⟨⟨j+1,⟨?_,by omega⟩,by omega⟩,by omega⟩⟩
   ·rw[hs,if_pos (by omega),he];rfl
   ·rw[hs,if_neg (by omega)]
  ·rw[List.take_of_length_le h]
   refine hW.loopS2 _ _ _ [.bp 0 3 .dp (.list .str),.o (.sl 11 .dp (.int .i64))] (fun ys=>∃i:Nat,ys=[.list (zFi ds es i),.int .i64 i]∧ds.length≤i∧(i=ds.length∨(i:Int)≤n5)) (fun ys=>n5.toNat - (nth ys 1).I.toNat) ?_ ?_
   ·simp[-List.getD_eq_getElem?_getD,zBz,zBc,zf,zAI,zc,zJp,zJo,zJr,zDa,zDR,zGu,zGD,zJq,zMi]
    exact⟨ds.length,⟨(zIl ds es (Int.le_refl _)).symm,rfl⟩,by omega,.inl rfl⟩
   ·rintro ys ⟨i,rfl,g2,g3⟩
    have w1:IntKind.i64.wrap ((i:Int)+1)=i+1:=zC (by omega)
    refine hW.vc [(10,[7,10],tkN [0,1,2,3,4,5] (alN [6,7] (tkN [8,9] (alS 10 .done)))),(15,[12,15],tkN [0,1,2,3,4,5,6,7,8,9,10] (alN [11,12] (tkN [13,14] (alS 15 .done))))] _ _ ?_
    simp[-List.getD_eq_getElem?_getD,zBz,zBc,zf,zAI,zc,zJp,zJo,zJr,zDa,zDR,zGu,zGD,zJq,zMi,w1]
    refine⟨fun h=>?_,fun h=>?_⟩
    ·clear hW hB
     have hl:=zV7 (ds:=ds) (es:=es) (i:=i) (by omega) g2
     have hs:=zT9 (ds:=ds) (es:=es) (i:=i) (by omega) g2
     refine⟨by decide +kernel,by omega,fun _=>⟨by omega,fun _=>⟨⟨i+1,⟨?_,by omega⟩,by omega,.inr (by omega)⟩,by omega⟩⟩⟩
     rw[←hs];congr 1
    ·have e:zFi ds es i=zFi ds es n5:=by
      rcases g3 with g3 | g3
      ·rw[zIl ds es (by omega),zIl ds es (by omega)]
      ·rw[show n5=i by omega]
     rw[eP,hU,if_pos hwt,e]
     exact⟨rfl,rfl⟩
def zGZ:zJ:=⟨[(.bx,.box [.list (.agg [.int .i64,.int .i64,.int .i64,.int .i64,.int .i64,.bool,.list (.agg [.int .i64,.str]),.int .i64,.int .i64,.int .i64,.list (.int .i64),.list (.int .i64),.list (.int .i64)]),.list (.agg [.str,.int .i64]),.list (.agg [.int .i64,.int .i64,.int .i64,.int .i64,.int .i64,.int .i64,.int .i64,.bool,.list (.agg [.int .i64,.str])]),.list .str]),(.rd,.int .i64),(.rd,.agg [.str,.int .i64]),(.rd,.int .i64)],[],true,fun ps=>DnP (zFs (nth ps 0).A) (nth ps 1).I (nth (nth ps 2).A 0).S (nth (nth ps 2).A 1).I,fun _=>[],fun ps=>[(zPD (zFs (nth ps 0).A) (nth ps 1).I (nth (nth ps 2).A 0).S (nth (nth ps 2).A 1).I (nth ps 3).I).pv]⟩
set_option maxHeartbeats 1000000 in
theorem zYF:zh Tryz.prog 152 zGZ:=by
 refine zP [0,1,2,3,6,8,9,11] [] (zA (cs:=[]) zLC (zA (cs:=[]) zEh (zA (cs:=[]) zYE (zD (zB []))))) mixed Tryz.func152 rfl (by decide) rfl (by decide) rfl ?_
 intro ps hT hpre W hW
 simp only[zGZ,TyA,Ty,Tys] at hT hpre
 obtain⟨_,_,rfl,⟨_,rfl,_,_,rfl,⟨ns,rfl,hns,tns⟩,_,_,rfl,⟨ss,rfl,hss,tss⟩,_,_,rfl,⟨ws,rfl,hws,tws⟩,_,_,rfl,⟨ds,rfl,hds,tds⟩,rfl⟩,_,_,rfl,⟨id,rfl,hid⟩,_,_,rfl,⟨_,rfl,_,_,rfl,⟨b,rfl,hb⟩,_,_,rfl,⟨sure,rfl,hsure⟩,rfl⟩,_,_,rfl,⟨keep,rfl,hkeep⟩,rfl⟩:=hT
 simp only[zE,zF,zBE,zAA,yp,zEW,zFs] at hpre
 obtain⟨q1,q2,q3,q4,q5,q6,q7⟩:=hpre
 have q2:id.toNat < ns.length:=q2
 have q3:ns.length≤5:=q3
 have q4:ss.length=ns.length:=q4
 have hst:zDz b sure=true:=by
  simp only[zDz,Bool.and_eq_true,leB,zk,decide_eq_true_eq]
  exact⟨by omega,q6,q7⟩
 refine hW.vc [] _ _ ?_
 simp[-List.reduceReplicate,-List.getD_eq_getElem?_getD,zGZ,zEu,zAE,zCe,zCr,ND.pv]
 refine⟨hst,by omega,fun _=>⟨⟨q1,by omega,by omega,by omega⟩,?_⟩⟩
 refine hW.vc [(3,[7,9,11,13],tkN [0,1,2,4,6] (tkM [3,5] (alS 7 (tkN [8] (alS 9 (tkN [10] (alS 11 (tkN [12] (alS 13 .done))))))))),(4,[13,15],tkN [0,1,2,3,4,5,6,7,8,9,10,12] (tkM [11] (alS 13 (tkN [14] (alS 15 .done)))))] _ _ ?_
 simp[-List.reduceReplicate,-List.getD_eq_getElem?_getD,zGZ,zEu,zAE,zCe]
 exact⟨by decide +kernel,by decide +kernel,⟨q1,by omega⟩,q2,⟨q1,by omega⟩,by omega,rfl⟩
end
end Go.Proofs.YthogljppoiekaaaGreat
