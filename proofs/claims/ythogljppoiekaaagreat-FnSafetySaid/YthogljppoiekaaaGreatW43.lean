/-
  Part 43: contracts of functions, and the laws by which they are proved.
  Conditions: none.
-/
import Derived.Test.YthogljppoiekaaaGreatW42
set_option linter.unusedVariables false
set_option linter.unusedSimpArgs false
set_option linter.unusedSectionVars false
set_option maxRecDepth 100000
namespace Go.Proofs.YthogljppoiekaaaGreat
section
variable [zS]
theorem ClI.vsl{c:CL}(h:ClI c){i:Nat}(hi:i < c.ns.length):(nth (nth c.ns i).A 10).L.length≤1048576:=by
 obtain⟨a1,_,_,a4⟩:=h.at hi
 have n1:=a4.F.n1;have n5:=a4.F.n5
 have:=zJD a4.F.vo (by omega)
 show(yH c.ns i).vs.length≤1048576
 omega
theorem zXs(x:ND):z8 [.int .i64 x.id,.int .i64 x.nodes,.int .i64 x.term,.int .i64 x.vote,.int .i64 x.role,.bool x.up,.list x.log,.int .i64 x.com,.int .i64 x.ela,.int .i64 x.wt,.list x.vs,.list x.nx,.list x.ms]=x:=rfl
theorem zQ8(ns ss ws ds:List PV):zFs [.list ns,.list ss,.list ws,.list ds]=⟨ns,ss,ws,ds⟩:=rfl
attribute [local irreducible] ST.wk
def zHD:zJ:=⟨[(.bx,.box [.list (.agg [.int .i64,.int .i64,.int .i64,.int .i64,.int .i64,.bool,.list (.agg [.int .i64,.str]),.int .i64,.int .i64,.int .i64,.list (.int .i64),.list (.int .i64),.list (.int .i64)]),.list (.agg [.str,.int .i64]),.list (.agg [.int .i64,.int .i64,.int .i64,.int .i64,.int .i64,.int .i64,.int .i64,.bool,.list (.agg [.int .i64,.str])]),.list .str]),(.rd,.agg [.int .i64,.int .i64,.int .i64,.int .i64,.str])],[.int .i64],true,fun ps=>ClI (zFs (nth ps 0).A),fun ps=>[.int .i64 (zKp (zFs (nth ps 0).A) (zDb (nth ps 1).A)).2],fun ps=>[(zKp (zFs (nth ps 0).A) (zDb (nth ps 1).A)).1.pv]⟩
set_option maxHeartbeats 2000000 in
theorem zZa:zh Tryz.prog 98 zHD:=by
 refine zIU [0,1,3,4,5,6,7,8,9,10] [.tmp 4] _ dG (zA (cs:=[]) zYF (zA (cs:=[]) zTO (zA (cs:=[]) zQK (zA (cs:=[]) zTP (zA (cs:=[]) zVm (zA (cs:=[]) zUr (zA (cs:=[]) zHA (zA (cs:=[]) zA9 (zD (zB [])))))))))) mixed Tryz.func98 rfl (by decide) rfl (by decide) rfl ?_
 intro ps hT hpre W hW hB
 simp only[zHD,TyA,Ty,Tys] at hT hpre
 obtain⟨_,_,rfl,⟨_,rfl,_,_,rfl,⟨ns,rfl,hns,tns⟩,_,_,rfl,⟨ss,rfl,hss,tss⟩,_,_,rfl,⟨ws,rfl,hws,tws⟩,_,_,rfl,⟨ds,rfl,hds,tds⟩,rfl⟩,_,_,rfl,⟨_,rfl,_,_,rfl,⟨ak,rfl,hak⟩,_,_,rfl,⟨an,rfl,han⟩,_,_,rfl,⟨aw,rfl,haw⟩,_,_,rfl,⟨ap,rfl,hap⟩,_,_,rfl,⟨ad,rfl,had⟩,rfl⟩,rfl⟩:=hT
 simp only[zE,zF,zBE,zAA,zFs] at hpre
 have hI:ClI ⟨ns,ss,ws,ds⟩:=hpre
 have q9:ws.length≤60:=hI.wl
 have eC:zKp (zFs [PV.list ns,PV.list ss,PV.list ws,PV.list ds]) (zDb [.int .i64 ak,.int .i64 an,.int .i64 aw,.int .i64 ap,.str ad])=zKp ⟨ns,ss,ws,ds⟩ ⟨ak,an,aw,ap,ad⟩:=rfl
 have w0:IntKind.i64.wrap ((ws.length:Int) - 1)=(ws.length:Int) - 1:=zC (by omega)
 refine hW.vc [(1,[],tkN [0,1,2,3,4,5,6,7] (alS 8 (tkN [9] .done))),(3,[9],tkN [0,1,2,3,4,5,6,7] (alN [8,9] .done)),(7,[8,11],tkN [0,1,2,3,4,5] (alN [6,7,8] (tkN [9,10] (alS 11 .done))))] _ _ ?_
 simp[-List.getD_eq_getElem?_getD,zHD,zT,z6,zDW,zBz,zBc,zf,zAI,zGZ,zc,w0]
 rw[eC]
 refine⟨by decide +kernel,fun _=>⟨fun h=>?_,fun h=>⟨by decide +kernel,?_⟩⟩⟩
 ·rw[zKp,if_pos (by exact h)];exact⟨rfl,rfl⟩
 have h1:=zk.1 h
 have hlt:aw.toNat < ws.length:=by omega
 obtain⟨m,hm,m2,m3,m4,m5⟩:=hI.wm _ (zb hlt)
 have m3:m.frm < ns.length:=m3
 have m4:m.to < ns.length:=m4
 have m0:0≤m.to:=(zKh m2).2
 obtain⟨it,hit,e2,l60,_,_⟩:=hI.at_tk (zb hlt)
 have l60:(nth (nth ws aw.toNat).A 8).L.length≤60:=l60
 have hW0:zKp ⟨ns,ss,ws,ds⟩ ⟨ak,an,aw,ap,ad⟩=if ak=4 then (if ws.length=60 then (⟨ns,ss,ws,ds⟩,7) else (⟨ns,ss,ws++[nth ws aw.toNat],ds⟩,0)) else zL9 ⟨ns,ss,ws.eraseIdx aw.toNat,ds⟩ ⟨ak,an,aw,ap,ad⟩ m:=by
  rw[zKp,if_neg (by simp[h])]
  show _=if ak=4 then _ else zL9 ⟨ns,ss,ws.eraseIdx aw.toNat,ds⟩ ⟨ak,an,aw,ap,ad⟩ (yk m.pv.A)
  rw[←hm]
 rw[hW0]
 refine⟨⟨by omega,by omega⟩,hlt,?_⟩
 intros
 refine⟨fun h4 _=>?_,fun h4=>?_⟩
 ·rw[if_pos h4]
  refine⟨fun h60=>?_,fun h60=>⟨by decide +kernel,by omega,by omega,fun _=>?_⟩⟩
  ·rw[if_pos (by omega)];exact⟨rfl,rfl⟩
  ·rw[if_neg (by omega),hm];exact⟨rfl,rfl⟩
 rw[if_neg h4] at hW0
 have w2:IntKind.i64.wrap (aw+1)=aw+1:=zC (by omega)
 have hE:ClI ⟨ns,ss,ws.eraseIdx aw.toNat,ds⟩:=hI.ws (by have:=List.length_eraseIdx_le ws aw.toNat;omega) fun e he=>hI.wm e (List.mem_of_mem_eraseIdx he)
 refine hB.pln [10,13] (.take 0 <| .take 1 <| .take 2 <| .take 3 <| .take 4 <| .take 5 <| .take 6 <| .take 7 <| .take 8 <| .take 9 <| .one 10 <| .take 11 <| .take 12 <| .alt 13 (.done) .stop) _ _ _ _ (by decide +kernel) ?_
 simp[-List.getD_eq_getElem?_getD,zHD,zT,z6,zDW,zBz,zBc,zf,zAI,zGZ,zc,vcH,dRes,zWV,zRg,zNJ,w2]
 refine⟨h1.1,hlt,?_⟩
 refine hW.vc [] _ _ ?_
 simp[-List.getD_eq_getElem?_getD,zHD,zT,z6,zDW,zBz,zBc,zf,zAI,zGZ,zc]
 rw[eC,hW0,zL9]
 refine⟨fun h3=>by rw[if_pos h3];exact⟨rfl,rfl⟩,fun h3=>?_⟩
 rw[zL9,if_neg h3] at hW0
 obtain⟨r,hr⟩:∃r,r=zKe (yH ns m.to.toNat) m:=⟨_,rfl⟩
 have hr':zKe (z8 (nth ns (nth (nth ws aw.toNat).A 2).I.toNat).A) (yk (nth ws aw.toNat).A)=r:=by rw[hr,hm];rfl
 refine hW.cutS [_] _ _ [.nb 6 77 [.int .i64,.int .i64,.int .i64,.int .i64,.int .i64,.bool,.list (.agg [.int .i64,.str]),.int .i64,.int .i64,.int .i64,.list (.int .i64),.list (.int .i64),.list (.int .i64)],.sl 7 .dp (.list (.agg [.int .i64,.int .i64,.int .i64,.int .i64,.int .i64,.int .i64,.int .i64,.bool,.list (.agg [.int .i64,.str])])),.sl 8 .dp (.int .i64)] (fun ys=>ys=[r.1.pv,.list r.2.1,.int .i64 r.2.2]) ?_ ?_
 ·refine hW.vc [(12,[15],tkN [0,1,2,3,4,5,6,7,8] (.alt 9 (tkN [10,11] (.alt 12 (.alt 13 (alN [14,15,16,17] .done) (alS 14 (.alt 13 (alN [15,16,17] .done) (alS 15 (tkN [13] (alN [16,17] .done)))))) (.alt 13 (.alt 12 (alN [14,15,16,17] .done) (alS 14 (.alt 12 (alN [15,16,17] .done) (alS 15 (tkN [12] (alN [16,17] .done)))))) (alS 14 (.alt 12 (.alt 13 (alN [15,16,17] .done) (alS 15 (tkN [13] (alN [16,17] .done)))) (.alt 13 (.alt 12 (alN [15,16,17] .done) (alS 15 (tkN [12] (alN [16,17] .done)))) (alS 15 (tkN [12,13] (alN [16,17] .done))))))))) (alN [14,9] (tkN [10,11] (.alt 12 (.alt 13 (alN [15,16,17] .done) (alS 15 (tkN [13] (alN [16,17] .done)))) (.alt 13 (.alt 12 (alN [15,16,17] .done) (alS 15 (tkN [12] (alN [16,17] .done)))) (alS 15 (tkN [12,13] (alN [16,17] .done)))))))))] _ _ ?_
  simp[-List.getD_eq_getElem?_getD,zHD,zT,z6,zDW,zBz,zBc,zf,zAI,zGZ,zc,ND.pv,zF3,zRW,hr']
  clear hW hB
  have e2':(nth (nth ws aw.toNat).A 2).I=m.to:=by rw[hm];rfl
  rw[e2']
  refine⟨by decide +kernel,⟨m0,m4⟩,by omega,?_⟩
  intros
  exact hI.vsl (i:=m.to.toNat) (by show m.to.toNat < ns.length;omega)
 rintro _ rfl
 simp only[ND.pv]
 refine hW.vc [] _ _ ?_
 simp[-List.getD_eq_getElem?_getD,zHD,zT,z6,zDW,zBz,zBc,zf,zAI,zGZ,zc,CL.pv,zXs,zQ8]
 have hW2:zKp ⟨ns,ss,ws,ds⟩ ⟨ak,an,aw,ap,ad⟩=zHE ⟨ns,ss,ws.eraseIdx aw.toNat,ds⟩ ⟨ak,an,aw,ap,ad⟩ r:=by rw[hW0,hr]
 have eA:zDb [.int .i64 ak,.int .i64 an,.int .i64 aw,.int .i64 ap,.str ad]=⟨ak,an,aw,ap,ad⟩:=rfl
 rw[eA,hW2]
 refine⟨fun h5=>?_,fun h5=>?_⟩
 ·rw[zHE,if_pos h5];exact⟨rfl,rfl,rfl,rfl,rfl⟩
 have hU:UpP ⟨ns,ss,ws.eraseIdx aw.toNat,ds⟩ r.1:=by
  rw[hr] at h5 ⊢
  exact hE.tk_U (i:=m.to.toNat) (by show m.to.toNat < ns.length;omega) m2 m3 (by omega) m5 h5
 refine⟨fun h6=>⟨hU,?_⟩,fun h6=>?_⟩
 ·rw[zHE,if_neg (by simp[h5]),if_pos h6];exact⟨rfl,rfl,rfl,rfl,rfl⟩
 obtain⟨wr,hwr⟩:∃wr,wr=zIt (zKD ss r.1.id.toNat) (zBR (zD0 (yH ns r.1.id.toNat)) (zD0 r.1)):=⟨_,rfl⟩
 have hW3:zHE ⟨ns,ss,ws.eraseIdx aw.toNat,ds⟩ ⟨ak,an,aw,ap,ad⟩ r=if wr.2=true then (zPD ⟨ns,ss,ws.eraseIdx aw.toNat,ds⟩ r.1.id wr.1 (zQx ss r.1.id.toNat) ap,0) else (⟨ns,ss,ws.eraseIdx aw.toNat,ds⟩,7):=by
  rw[zHE,if_neg (by simp[h5]),if_neg h6,hwr]
 obtain⟨u1,u2,u3,u4,u5,u6,u7,u8,u9,u10⟩:=hU
 have u2:r.1.id.toNat < ns.length:=u2
 have u3:ns.length≤5:=u3
 have u4:ss.length=ns.length:=u4
 have u5:(nth (nth ss r.1.id.toNat).A 0).S.length≤60000:=u5
 have u6:(zD0 (yH ns r.1.id.toNat)).wk:=u6
 have u11:=zO4 (a:=zD0 (yH ns r.1.id.toNat)) u7
 have hat:=hE.at (i:=r.1.id.toNat) u2
 have hs2:zQx ss r.1.id.toNat=(zKD ss r.1.id.toNat).length:=hat.2.2.1
 refine hW.cutS [_] _ _ [.nb 9 73 [.str,.int .i64],.sl 10 .dp .bool] (fun ys=>ys=[.agg [.str (cond wr.2 wr.1 []),.int .i64 (cond wr.2 (zQx ss r.1.id.toNat) 0)],.bool wr.2]) ?_ ?_
 ·refine hW.vc [(17,[25],tkN [0,1,2,3,4,5,6,7,8,9,10,11,12,13,14,15,17] (.alt 16 (.alt 18 (.alt 19 (.alt 20 (tkN [21,22] (.alt 23 (alN [24,25,26] .done) (alS 24 (.alt 23 (alN [25,26] .done) (alS 25 (tkN [23] (alS 26 .done))))))) (alN [24,20] (tkN [21,22] (.alt 23 (alN [25,26] .done) (alS 25 (tkN [23] (alS 26 .done))))))) (alN [24,19,20] (tkN [21,22] (.alt 23 (alN [25,26] .done) (alS 25 (tkN [23] (alS 26 .done))))))) (alN [24,18,19,20] (tkN [21,22] (.alt 23 (alN [25,26] .done) (alS 25 (tkN [23] (alS 26 .done))))))) (alN [24,16,18,19,20] (tkN [21,22] (.alt 23 (alN [25,26] .done) (alS 25 (tkN [23] (alS 26 .done))))))))] _ _ ?_
  simp[-List.getD_eq_getElem?_getD,zHD,zT,z6,zDW,zBz,zBc,zf,zAI,zGZ,zc,zc,zEy]
  clear hW hB
  refine⟨by decide +kernel,?_⟩
  repeat' (first | apply And.intro | intro _)
  all_goals first
   | omega
   | assumption
   | exact u6
   | exact u7
   | exact u11 _ (by assumption)
   | (rw[hwr];rfl)
   | trace_state
 rintro _ rfl
 refine hW.vc [] _ _ ?_
 simp[-List.getD_eq_getElem?_getD,zHD,zT,z6,zDW,zBz,zBc,zf,zAI,zGZ,zc,CL.pv,zXs,zQ8]
 rw[eA,hW2,hW3]
 refine⟨fun h=>by rw[if_neg (by simp[h])];exact⟨rfl,rfl,rfl,rfl,rfl⟩,fun h=>?_⟩
 simp only[h,cond_true,if_true]
 obtain⟨k1,k2⟩:=zPO (es:=zBR (zD0 (yH ns r.1.id.toNat)) (zD0 r.1)) (b:=zKD ss r.1.id.toNat) (by rw[←hwr];exact h)
 rw[←hwr] at k1
 have k3:=k2 u5
 rw[←k1] at k3
 have k4:(zKD ss r.1.id.toNat).length≤wr.1.length:=by rw[k1,List.length_append];omega
 exact⟨⟨u1,u2,u3,u4,k3,by rw[hs2];omega,by rw[hs2];omega⟩,trivial,trivial,trivial,trivial,trivial⟩
end
end Go.Proofs.YthogljppoiekaaaGreat
