/-
  Part 41: contracts of functions, and the laws by which they are proved.
  Conditions: none.
-/
import Derived.Test.YthogljppoiekaaaGreatW40
set_option linter.unusedVariables false
set_option linter.unusedSimpArgs false
set_option linter.unusedSectionVars false
set_option maxRecDepth 100000
namespace Go.Proofs.YthogljppoiekaaaGreat
section
variable [zS]
attribute [local irreducible] ST.wk
theorem zS7:∀{es:List PV} {s:ST},s.log.length≤60→(zBK s es).1.log.length≤60
 | [],s,h=>h
 | e :: es,s,h=>by
  rw[zBK]
  split
  ·rename_i h1
   refine zS7 ?_
   cases hc:zNs s e.S with
   | none=>rw[zT4 hc];simp[ST.no]
   | some o=>
    rw[zQn hc] at h1 ⊢
    exact(ST.facts h1).2.2.2
  ·exact h
theorem zbK(b:List UInt8):(yP b).1.log.length≤60:=by
 unfold yP
 split
 ·simp[ST.no]
 ·split
  ·exact zS7 (by simp[ST.one])
  ·simp[ST.no]
def zIf:zJ:=⟨[(.rd,.agg [.list (.agg [.int .i64,.int .i64,.int .i64,.int .i64,.int .i64,.bool,.list (.agg [.int .i64,.str]),.int .i64,.int .i64,.int .i64,.list (.int .i64),.list (.int .i64),.list (.int .i64)]),.list (.agg [.str,.int .i64]),.list (.agg [.int .i64,.int .i64,.int .i64,.int .i64,.int .i64,.int .i64,.int .i64,.bool,.list (.agg [.int .i64,.str])]),.list .str]),(.rd,.int .i64),(.rd,.agg [.str,.int .i64]),(.rd,.int .i64)],[.agg [.list (.agg [.int .i64,.int .i64,.int .i64,.int .i64,.int .i64,.bool,.list (.agg [.int .i64,.str]),.int .i64,.int .i64,.int .i64,.list (.int .i64),.list (.int .i64),.list (.int .i64)]),.list (.agg [.str,.int .i64]),.list (.agg [.int .i64,.int .i64,.int .i64,.int .i64,.int .i64,.int .i64,.int .i64,.bool,.list (.agg [.int .i64,.str])]),.list .str],.int .i64],false,fun ps=>DnP (zFs (nth ps 0).A) (nth ps 1).I (nth (nth ps 2).A 0).S (nth (nth ps 2).A 1).I∧(yP ((nth (nth ps 2).A 0).S.take (zU2 (nth (nth ps 2).A 0).S.length (nth (nth ps 2).A 1).I (nth ps 3).I))).2.2=0,
 fun ps=>[(zPD (zFs (nth ps 0).A) (nth ps 1).I (nth (nth ps 2).A 0).S (nth (nth ps 2).A 1).I (nth ps 3).I).pv,.int .i64 0],fun _=>[]⟩
set_option maxHeartbeats 2000000 in
theorem zTT:zh Tryz.prog 92 zIf:=by
 refine zP [0,1,2,3,4,6,8,9,10,11,12,13] [.cell 8 29,.tmp 9] (zA (cs:=[]) zLf (zA (cs:=[]) zHJ (zA (cs:=[]) zWZ (zD (zB []))))) mixed Tryz.func92 rfl (by decide) rfl (by decide) rfl ?_
 intro ps hT hpre W hW
 simp only[zIf,TyA,Ty,Tys] at hT hpre
 obtain⟨_,_,rfl,⟨_,rfl,_,_,rfl,⟨ns,rfl,hns,tns⟩,_,_,rfl,⟨ss,rfl,hss,tss⟩,_,_,rfl,⟨ws,rfl,hws,tws⟩,_,_,rfl,⟨ds,rfl,hds,tds⟩,rfl⟩,_,_,rfl,⟨id,rfl,hid⟩,_,_,rfl,⟨_,rfl,_,_,rfl,⟨b,rfl,hb⟩,_,_,rfl,⟨sure,rfl,hsure⟩,rfl⟩,_,_,rfl,⟨keep,rfl,hkeep⟩,rfl⟩:=hT
 simp only[zE,zF,zBE,zAA,yp,zEW,zFs] at hpre
 obtain⟨⟨q1,q2,q3,q4,q5,q6,q7⟩,hrc⟩:=hpre
 have q2:id.toNat < ns.length:=q2
 have q3:ns.length≤5:=q3
 have q4:ss.length=ns.length:=q4
 have hst:zDz b sure=true:=by
  simp only[zDz,Bool.and_eq_true,leB,zk,decide_eq_true_eq]
  exact⟨by omega,q6,q7⟩
 have hS:=fun s=>zRy s hrc
 refine hW.vc [] _ _ ?_
 simp[-List.reduceReplicate,-List.getD_eq_getElem?_getD,zIf,zLl,yE,zB2,zEu,zEu,hS,hrc,zCr,ND.pv,CL.pv]
 have hl:=zbK (b.take (zU2 b.length sure keep))
 exact⟨hst,by omega,fun _=>⟨⟨q1,by omega,by omega,by omega,by omega⟩,by omega,⟨q1,by omega⟩,by omega,by omega,⟨q1,by omega⟩,q2,rfl,rfl,rfl,rfl⟩⟩
def zLk:zJ:=⟨[(.rd,.agg [.list (.agg [.int .i64,.int .i64,.int .i64,.int .i64,.int .i64,.bool,.list (.agg [.int .i64,.str]),.int .i64,.int .i64,.int .i64,.list (.int .i64),.list (.int .i64),.list (.int .i64)]),.list (.agg [.str,.int .i64]),.list (.agg [.int .i64,.int .i64,.int .i64,.int .i64,.int .i64,.int .i64,.int .i64,.bool,.list (.agg [.int .i64,.str])]),.list .str]),(.rd,.int .i64)],[.agg [.list (.agg [.int .i64,.int .i64,.int .i64,.int .i64,.int .i64,.bool,.list (.agg [.int .i64,.str]),.int .i64,.int .i64,.int .i64,.list (.int .i64),.list (.int .i64),.list (.int .i64)]),.list (.agg [.str,.int .i64]),.list (.agg [.int .i64,.int .i64,.int .i64,.int .i64,.int .i64,.int .i64,.int .i64,.bool,.list (.agg [.int .i64,.str])]),.list .str]],false,fun ps=>0≤(nth ps 1).I∧(nth ps 1).I < (nth (nth ps 0).A 2).L.length∧(nth (nth ps 0).A 2).L.length≤60,fun ps=>[.agg [.list (nth (nth ps 0).A 0).L,.list (nth (nth ps 0).A 1).L,.list ((nth (nth ps 0).A 2).L.eraseIdx (nth ps 1).I.toNat),.list (nth (nth ps 0).A 3).L]],fun _=>[]⟩
theorem zZc:zh Tryz.prog 137 zLk:=by
 refine zP [0,1,2,4] [.cell 4 29] (zD (zB [])) mixed Tryz.func137 rfl (by decide) rfl (by decide) rfl ?_
 intro ps hT hpre W hW
 simp only[zLk,TyA,Ty,Tys] at hT hpre
 obtain⟨_,_,rfl,⟨_,rfl,_,_,rfl,⟨ns,rfl,hns,tns⟩,_,_,rfl,⟨ss,rfl,hss,tss⟩,_,_,rfl,⟨ws,rfl,hws,tws⟩,_,_,rfl,⟨ds,rfl,hds,tds⟩,rfl⟩,_,_,rfl,⟨k,rfl,hk⟩,rfl⟩:=hT
 simp only[zE,zF,zBE,zAA,yp] at hpre
 have w1:IntKind.i64.wrap (k+1)=k+1:=zC (by omega)
 refine hW.vc [(1,[5,11,13],tkN [1,2,3,4,6,8,9] (.alt 0 (.alt 5 (tkN [7,10] (alS 11 (tkN [12] (alS 13 .done)))) (alS 7 (tkN [10] (alN [5,11] (tkN [12] (alS 13 .done)))))) (alS 7 (tkN [10] (alN [0,5,11] (tkN [12] (alS 13 .done)))))))] _ _ ?_
 simp[-List.getD_eq_getElem?_getD,zLk,w1]
 have e1:(k+1).toNat=k.toNat+1:=by omega
 have e:ws.take k.toNat++(ws.drop (k+1).toNat).take (ws.length - (k+1).toNat)=ws.eraseIdx k.toNat:=by
  rw[List.take_of_length_le (l:=ws.drop (k+1).toNat) (by simp),e1,List.eraseIdx_eq_take_drop_succ]
 exact⟨by decide +kernel,⟨hpre.1,by omega⟩,fun _=>⟨⟨by omega,⟨by omega,by omega⟩,fun _=>⟨by omega,fun _=>e⟩⟩,⟨by omega,by omega⟩,fun _=>⟨by omega,by omega,fun _=>e⟩⟩⟩
theorem zeY{cnt:Int}{i:Nat}{n:ND}{b:List UInt8}(a4:NdI cnt i n b){m:MG}(hm:mgB m=true)(h1:m.frm < cnt)(h2:m.to=i) :
  zKe n m=cond n.up (cond (zB9 (yI (zCD n m.term) m).1) ((yI (zCD n m.term) m).1,(yI (zCD n m.term) m).2,0) (n,[],3)) (n,[],13):=by
 have e1:decide (m.to=n.id)=true:=decide_eq_true (by rw[a4.id];exact h2)
 have e2:decide (m.frm < n.nodes)=true:=decide_eq_true (by rw[a4.nds];exact h1)
 rw[zKe,zIo a4.F,hm,e1,e2];rfl
theorem ClI.vsm{c:CL}(h:ClI c){i:Nat}(hi:i < c.ns.length):(nth (nth c.ns i).A 10).L.length≤1048576:=by
 obtain⟨a1,_,_,a4⟩:=h.at hi
 have n1:=a4.F.n1;have n5:=a4.F.n5
 have:=zJD a4.F.vo (by omega)
 show(yH c.ns i).vs.length≤1048576
 omega
def zJy:zJ:=⟨[(.rd,.agg [.list (.agg [.int .i64,.int .i64,.int .i64,.int .i64,.int .i64,.bool,.list (.agg [.int .i64,.str]),.int .i64,.int .i64,.int .i64,.list (.int .i64),.list (.int .i64),.list (.int .i64)]),.list (.agg [.str,.int .i64]),.list (.agg [.int .i64,.int .i64,.int .i64,.int .i64,.int .i64,.int .i64,.int .i64,.bool,.list (.agg [.int .i64,.str])]),.list .str]),(.rd,.agg [.int .i64,.int .i64,.int .i64,.int .i64,.str])],[.agg [.list (.agg [.int .i64,.int .i64,.int .i64,.int .i64,.int .i64,.bool,.list (.agg [.int .i64,.str]),.int .i64,.int .i64,.int .i64,.list (.int .i64),.list (.int .i64),.list (.int .i64)]),.list (.agg [.str,.int .i64]),.list (.agg [.int .i64,.int .i64,.int .i64,.int .i64,.int .i64,.int .i64,.int .i64,.bool,.list (.agg [.int .i64,.str])]),.list .str],.int .i64],false,fun ps=>ClI (zFs (nth ps 0).A)∧zYK (nth (nth ps 1).A 0).I=true,fun ps=>[(zKp (zFs (nth ps 0).A) (zDb (nth ps 1).A)).1.pv,.int .i64 (zKp (zFs (nth ps 0).A) (zDb (nth ps 1).A)).2],fun _=>[]⟩
set_option maxHeartbeats 2000000 in
theorem zX6:zh Tryz.prog 91 zJy:=by
 refine zP [0,1,2,3,4,5,6,7,8,9,10,11] [.cell 4 29,.tmp 5] (zA (cs:=[]) zVo (zA (cs:=[]) zTT (zA (cs:=[]) zRZ (zA (cs:=[]) zOi (zA (cs:=[]) zGs (zA (cs:=[]) zLB (zA (cs:=[]) zX9 (zA (cs:=[]) zZc (zA (cs:=[]) zEj (zD (zB []))))))))))) mixed Tryz.func91 rfl (by decide) rfl (by decide) rfl ?_
 intro ps hT hpre W hW
 simp only[zJy,TyA,Ty,Tys] at hT hpre
 obtain⟨_,_,rfl,⟨_,rfl,_,_,rfl,⟨ns,rfl,hns,tns⟩,_,_,rfl,⟨ss,rfl,hss,tss⟩,_,_,rfl,⟨ws,rfl,hws,tws⟩,_,_,rfl,⟨ds,rfl,hds,tds⟩,rfl⟩,_,_,rfl,⟨_,rfl,_,_,rfl,⟨ak,rfl,hak⟩,_,_,rfl,⟨an,rfl,han⟩,_,_,rfl,⟨aw,rfl,haw⟩,_,_,rfl,⟨ap,rfl,hap⟩,_,_,rfl,⟨ad,rfl,had⟩,rfl⟩,rfl⟩:=hT
 simp only[zE,zF,zBE,zAA,yp,zFs] at hpre
 have hI:ClI ⟨ns,ss,ws,ds⟩:=hpre.1
 have hk:ak=2∨ak=3∨ak=4∨ak=8:=by simpa[zYK,or_assoc] using hpre.2
 have q9:ws.length≤60:=hI.wl
 have eA:zDb [.int .i64 ak,.int .i64 an,.int .i64 aw,.int .i64 ap,.str ad]=⟨ak,an,aw,ap,ad⟩:=rfl
 have w0:IntKind.i64.wrap ((ws.length:Int) - 1)=(ws.length:Int) - 1:=zC (by omega)
 obtain⟨R,hR⟩:∃R,R=zKp ⟨ns,ss,ws,ds⟩ ⟨ak,an,aw,ap,ad⟩:=⟨_,rfl⟩
 refine hW.vc [(7,[3,6,8],tkN [1,2] (tkM [4] (.alt 0 (.alt 3 (alN [5,6] (tkN [7] (alS 8 .done))) (alN [5,3,6] (tkN [7] (alS 8 .done)))) (alN [5,0,3,6] (tkN [7] (alS 8 .done))))))] _ _ ?_
 simp[-List.getD_eq_getElem?_getD,zJy,zCC,zLk,zJ0,yl,zc,zAT,zCU,zIf,zE7,zT,zo,zf,w0,eA,zBd,CL.pv,ND.pv,zF3,zRW,zeu,←hR,zT,zo]
 refine fun _=>⟨fun h=>?_,fun h=>?_⟩
 ·rw[zKp,if_pos (by exact h)] at hR
  rw[hR];exact⟨⟨rfl,rfl,rfl,rfl⟩,rfl⟩
 have h1:=zk.1 h
 have hlt:aw.toNat < ws.length:=by omega
 obtain⟨m,hm,m2,m3,m4,m5⟩:=hI.wm _ (zb hlt)
 have m3:m.frm < ns.length:=m3
 have m4:m.to < ns.length:=m4
 have m0:0≤m.to:=(zKh m2).2
 have e2:(nth (nth ws aw.toNat).A 2).I=m.to:=by rw[hm];rfl
 have e3:yk (nth ws aw.toNat).A=m:=by rw[hm];rfl
 have hW0:zKp ⟨ns,ss,ws,ds⟩ ⟨ak,an,aw,ap,ad⟩=if ak=4 then (if ws.length=60 then (⟨ns,ss,ws,ds⟩,7) else (⟨ns,ss,ws++[nth ws aw.toNat],ds⟩,0)) else zL9 ⟨ns,ss,ws.eraseIdx aw.toNat,ds⟩ ⟨ak,an,aw,ap,ad⟩ m:=by
  rw[zKp,if_neg (by simp[h])]
  show _=if ak=4 then _ else zL9 ⟨ns,ss,ws.eraseIdx aw.toNat,ds⟩ ⟨ak,an,aw,ap,ad⟩ (yk m.pv.A)
  rw[←hm]
 have hR0:=hR
 rw[hW0] at hR
 refine⟨⟨by omega,by omega⟩,hlt,?_⟩
 intros
 refine⟨fun h4 _=>?_,fun h4=>?_⟩
 ·rw[if_pos h4] at hR
  refine⟨fun h60=>?_,fun h60=>⟨by decide +kernel,by omega,by omega,fun _=>?_⟩⟩
  ·rw[if_pos (by omega)] at hR
   rw[hR];exact⟨⟨rfl,rfl,rfl,rfl⟩,rfl⟩
  ·rw[if_neg (by omega)] at hR
   rw[hR,hm];exact⟨⟨rfl,rfl,rfl,rfl⟩,rfl⟩
 rw[if_neg h4] at hR
 have hE:ClI ⟨ns,ss,ws.eraseIdx aw.toNat,ds⟩:=hI.ws (by have:=List.length_eraseIdx_le ws aw.toNat;omega) fun e he=>hI.wm e (List.mem_of_mem_eraseIdx he)
 have it:m.to.toNat < ns.length:=by omega
 obtain⟨b1,b2,b3,b4⟩:=hE.at (i:=m.to.toNat) it
 have b1:nth ns m.to.toNat=(yH ns m.to.toNat).pv:=b1
 obtain⟨x,hx⟩:∃x,x=yH ns m.to.toNat:=⟨_,rfl⟩
 have hx':z8 (nth ns m.to.toNat).A=x:=hx.symm
 have hu:(nth (nth ns m.to.toNat).A 5).B=x.up:=by rw[hx];rfl
 have hv:=hE.vsm (i:=m.to.toNat) it
 have hv:(nth (nth ns m.to.toNat).A 10).L.length≤1048576:=hv
 have b4':=b4
 rw[show yH (⟨ns,ss,ws.eraseIdx aw.toNat,ds⟩:CL).ns m.to.toNat=x from hx.symm] at b4'
 have hF:NdF x:=b4'.F
 have hM:MgF x m:=zTI m2 (by rw[b4'.nds];exact m3)
 have e4:(nth (nth ws aw.toNat).A 3).I=m.term:=by rw[hm];rfl
 rw[e2,e3,hx',hu,e4]
 refine⟨⟨by omega,by omega,q9⟩,⟨m0,m4⟩,it,?_⟩
 intros
 rw[zL9] at hR
 refine⟨fun h3=>?_,fun h3=>?_⟩
 ·rw[if_pos h3] at hR
  rw[hR];exact⟨⟨rfl,rfl,rfl,rfl⟩,rfl⟩
 rw[if_neg h3,show yH (⟨ns,ss,ws.eraseIdx aw.toNat,ds⟩:CL).ns m.to.toNat=x from hx.symm,zeY b4' m2 m3 (by omega)] at hR
 refine⟨fun hup=>?_,fun hup=>⟨⟨hF,hM,hv⟩,?_⟩⟩
 ·rw[hup,cond_false,zHE,if_pos (by simp)] at hR
  rw[hR];exact⟨⟨rfl,rfl,rfl,rfl⟩,rfl⟩
 rw[hup,cond_true] at hR
 obtain⟨r,hr⟩:∃r,r=yI (zCD x m.term) m:=⟨_,rfl⟩
 rw[←hr] at hR ⊢
 refine⟨fun hn=>?_,fun hn=>?_⟩
 ·rw[hn,cond_false,zHE,if_pos (by simp)] at hR
  rw[hR];exact⟨⟨rfl,rfl,rfl,rfl⟩,rfl⟩
 rw[hn,cond_true] at hR
 have htk:zKe x m=(r.1,r.2,0):=by rw[zeY b4' m2 m3 (by omega),hup,cond_true,←hr,hn,cond_true]
 obtain⟨hT,_,_⟩:=za5 b4' m2 m3 (by omega) m5 (by rw[htk])
 rw[htk] at hT
 have hid:r.1.id=m.to:=by have:=hT.id;simp only at this;omega
 have hU:UpP ⟨ns,ss,ws.eraseIdx aw.toNat,ds⟩ r.1:=hE.upP (i:=m.to.toNat) it (by rw[hid];omega) (zUH hT.F hT.e) hT.F.c1
 refine⟨fun h8=>?_,fun h8=>⟨hU,?_⟩⟩
 ·obtain⟨wr,hwr⟩:∃wr,wr=zIt (zKD ss m.to.toNat) (zBR (zD0 x) (zD0 r.1)):=⟨_,rfl⟩
  have hW3:R=if wr.2=true then (zPD ⟨ns,ss,ws.eraseIdx aw.toNat,ds⟩ m.to wr.1 (zQx ss m.to.toNat) ap,0) else (⟨ns,ss,ws.eraseIdx aw.toNat,ds⟩,7):=by
   rw[hR,zHE,if_neg (by simp),if_neg (by simp[h8]),hwr,hid,←hx]
  have u4:ss.length=ns.length:=hE.sl
  have u5:(nth (nth ss m.to.toNat).A 0).S.length≤60000:=b4'.l
  have u6:(zD0 x).wk:=zUH b4'.F b4'.e
  have u7:(zD0 r.1).wk:=zUH hT.F hT.e
  rw[hx] at u6
  have u11:=zO4 (a:=zD0 (yH ns m.to.toNat)) u7
  have hs2:zQx ss m.to.toNat=(zKD ss m.to.toNat).length:=b3
  refine hW.cutS [_] _ _ [.nb 10 73 [.str,.int .i64],.sl 11 .dp (.int .i64)] (fun ys=>ys=[.agg [.str wr.1,.int .i64 (zQx ss m.to.toNat)],.int .i64 (cond wr.2 0 7)]) ?_ ?_
  ·refine hW.vc [(19,[16],tkN [0,1,2,3,4,5,6,8] (.alt 7 (.alt 9 (.alt 10 (.alt 11 (tkN [12,13] (.alt 14 (alN [15,16,17] .done) (alS 15 (.alt 14 (alN [16,17] .done) (alS 16 (tkN [14] (alS 17 .done))))))) (alN [15,11] (tkN [12,13] (.alt 14 (alN [16,17] .done) (alS 16 (tkN [14] (alS 17 .done))))))) (alN [15,10,11] (tkN [12,13] (.alt 14 (alN [16,17] .done) (alS 16 (tkN [14] (alS 17 .done))))))) (alN [15,9,10,11] (tkN [12,13] (.alt 14 (alN [16,17] .done) (alS 16 (tkN [14] (alS 17 .done))))))) (alN [15,7,9,10,11] (tkN [12,13] (.alt 14 (alN [16,17] .done) (alS 16 (tkN [14] (alS 17 .done))))))))] _ _ ?_
   simp[-List.getD_eq_getElem?_getD,zJy,zCC,zLk,zJ0,yl,zc,zAT,zCU,zIf,zE7,zT,zo,zf,zc,zf,zEy]
   clear hW
   refine⟨by decide +kernel,?_⟩
   repeat' (first | apply And.intro | intro _)
   all_goals first
    | omega
    | assumption
    | exact u6
    | exact u7
    | exact u11 _ (by assumption)
    | (rw[hwr,hx];rfl)
    | rfl
    | trace_state
  rintro _ rfl
  refine hW.vc [] _ _ ?_
  simp[-List.getD_eq_getElem?_getD,zJy,zCC,zLk,zJ0,yl,zc,zAT,zCU,zIf,zE7,zT,zo,zf,eA,zBd,CL.pv,ND.pv,←hR0]
  refine⟨fun h=>?_,fun h=>?_⟩
  ·have hf:wr.2=false:=by
    cases hh:wr.2 with
    | false=>rfl
    | true=>rw[hh] at h;simp at h
   rw[if_neg (by simp[hf])] at hW3
   rw[hW3,hf];exact⟨⟨rfl,rfl,rfl,rfl⟩,rfl⟩
  have hwt:wr.2=true:=by
   cases hh:wr.2 with
   | false=>rw[hh] at h;simp at h
   | true=>rfl
  rw[if_pos hwt] at hW3
  rw[hW3]
  obtain⟨k1,k2⟩:=zPO (es:=zBR (zD0 x) (zD0 r.1)) (b:=zKD ss m.to.toNat) (by rw[←hwr];exact hwt)
  rw[←hwr] at k1
  have k3:=k2 u5
  rw[←k1] at k3
  have k4:(zKD ss m.to.toNat).length≤wr.1.length:=by rw[k1,List.length_append];omega
  have hwt':=hwt
  rw[hwr,hx] at hwt'
  obtain⟨s,b',j,hD,_,_⟩:=zRh hE (i:=m.to.toNat) it hT.F hT.nd hT.e (by rw[←show x=yH (⟨ns,ss,ws.eraseIdx aw.toNat,ds⟩:CL).ns m.to.toNat from hx];exact hT.t) ap hwt'
  have hD1:=hD.r
  have hrc:(yP (wr.1.take (zU2 wr.1.length (zQx ss m.to.toNat) ap))).2.2=0:=by
   rw[hwr,hx]
   exact congrArg (fun q=>q.2.2) hD1
  exact⟨⟨⟨m0,it,hE.n5,u4,k3,by rw[hs2];omega,by rw[hs2];omega⟩,hrc⟩,⟨rfl,rfl,rfl,rfl⟩,rfl⟩
 ·have h2:ak=2:=by omega
  rw[zHE,if_neg (by simp),if_pos h2] at hR
  rw[hR];exact⟨⟨rfl,rfl,rfl,rfl⟩,rfl⟩
end
end Go.Proofs.YthogljppoiekaaaGreat
