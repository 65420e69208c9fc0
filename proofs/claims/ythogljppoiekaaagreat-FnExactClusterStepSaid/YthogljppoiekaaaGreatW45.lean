/-
  Part 45: contracts of functions, and the laws by which they are proved.
  Conditions: none.
-/
import Derived.Test.YthogljppoiekaaaGreatW41
import Derived.Test.YthogljppoiekaaaGreatW44
set_option linter.unusedVariables false
set_option linter.unusedSimpArgs false
set_option linter.unusedSectionVars false
set_option maxRecDepth 100000
namespace Go.Proofs.YthogljppoiekaaaGreat
section
variable [zS]
def zw:zJ:=⟨[(.rd,.agg [.list (.agg [.int .i64,.int .i64,.int .i64,.int .i64,.int .i64,.bool,.list (.agg [.int .i64,.str]),.int .i64,.int .i64,.int .i64,.list (.int .i64),.list (.int .i64),.list (.int .i64)]),.list (.agg [.str,.int .i64]),.list (.agg [.int .i64,.int .i64,.int .i64,.int .i64,.int .i64,.int .i64,.int .i64,.bool,.list (.agg [.int .i64,.str])]),.list .str]),(.rd,.agg [.int .i64,.int .i64,.int .i64,.int .i64,.str])],[.agg [.list (.agg [.int .i64,.int .i64,.int .i64,.int .i64,.int .i64,.bool,.list (.agg [.int .i64,.str]),.int .i64,.int .i64,.int .i64,.list (.int .i64),.list (.int .i64),.list (.int .i64)]),.list (.agg [.str,.int .i64]),.list (.agg [.int .i64,.int .i64,.int .i64,.int .i64,.int .i64,.int .i64,.int .i64,.bool,.list (.agg [.int .i64,.str])]),.list .str],.int .i64],false,fun ps=>ClI (zFs (nth ps 0).A),fun ps=>[(zAS (zFs (nth ps 0).A) (zDb (nth ps 1).A)).1.pv,.int .i64 (zAS (zFs (nth ps 0).A) (zDb (nth ps 1).A)).2],fun _=>[]⟩
set_option maxHeartbeats 4000000 in
theorem zFK:zh Tryz.prog 47 zw:=by
 refine zP [0,1,2,3,4,5,6,7,8,9,10,11,13,68] [.cell 4 29,.tmp 5] (zA (cs:=[]) zVo (zA (cs:=[]) zTU (zA (cs:=[]) zX8 (zA (cs:=[]) zTT (zA (cs:=[]) zX6 (zA (cs:=[]) zEj (zD (zB [])))))))) mixed Tryz.func47 rfl (by decide) rfl (by decide) rfl ?_
 intro ps hT hpre W hW
 simp only[zw,TyA,Ty,Tys] at hT hpre
 obtain⟨_,_,rfl,⟨_,rfl,_,_,rfl,⟨ns,rfl,hns,tns⟩,_,_,rfl,⟨ss,rfl,hss,tss⟩,_,_,rfl,⟨ws,rfl,hws,tws⟩,_,_,rfl,⟨ds,rfl,hds,tds⟩,rfl⟩,_,_,rfl,⟨_,rfl,_,_,rfl,⟨ak,rfl,hak⟩,_,_,rfl,⟨an,rfl,han⟩,_,_,rfl,⟨aw,rfl,haw⟩,_,_,rfl,⟨ap,rfl,hap⟩,_,_,rfl,⟨ad,rfl,had⟩,rfl⟩,rfl⟩:=hT
 simp only[zE,zF,zBE,zAA,yp,zFs] at hpre
 have hI:ClI ⟨ns,ss,ws,ds⟩:=hpre
 have n1:1≤ns.length:=hI.n1
 have n5:ns.length≤5:=hI.n5
 have w0:IntKind.i64.wrap ((ns.length:Int) - 1)=(ns.length:Int) - 1:=zC (by omega)
 have eA:zDb [.int .i64 ak,.int .i64 an,.int .i64 aw,.int .i64 ap,.str ad]=⟨ak,an,aw,ap,ad⟩:=rfl
 obtain⟨R,hR⟩:∃R,R=zAS ⟨ns,ss,ws,ds⟩ ⟨ak,an,aw,ap,ad⟩:=⟨_,rfl⟩
 have hS:R=if zYK ak=true then zKp ⟨ns,ss,ws,ds⟩ ⟨ak,an,aw,ap,ad⟩ else if ze7 ak=true then (if inB an 0 (ns.length - 1)=false then (⟨ns,ss,ws,ds⟩,4) else zIz ⟨ns,ss,ws,ds⟩ ⟨ak,an,aw,ap,ad⟩) else (⟨ns,ss,ws,ds⟩,3):=hR
 obtain⟨x,hx⟩:∃x,x=yH ns an.toNat:=⟨_,rfl⟩
 have hx':z8 (nth ns an.toNat).A=x:=hx.symm
 have hu:(nth (nth ns an.toNat).A 5).B=x.up:=by rw[hx];rfl
 have hS1:(ak=2∨ak=3∨ak=4∨ak=8)→R=zKp ⟨ns,ss,ws,ds⟩ ⟨ak,an,aw,ap,ad⟩:=fun h=>by rw[hS,if_pos (zNX.2 h)]
 have hS2:(ak=1∨ak=5∨ak=6∨ak=7)→inB an 0 (ns.length - 1)=false→R=(⟨ns,ss,ws,ds⟩,4):=fun h2 h3=>by rw[hS,if_neg (fun q=>absurd (zNX.1 q) (by omega)),if_pos (zRb.2 h2),if_pos h3]
 have hS4:¬(ak=2∨ak=3∨ak=4∨ak=8)→¬(ak=1∨ak=5∨ak=6∨ak=7)→R=(⟨ns,ss,ws,ds⟩,3):=fun h h2=>by rw[hS,if_neg (fun q=>h (zNX.1 q)),if_neg (fun q=>h2 (zRb.1 q))]
 have hS3:(ak=1∨ak=5∨ak=6∨ak=7)→inB an 0 (ns.length - 1)=true→R=if ak=6 then (if x.up=true then (⟨ns,ss,ws,ds⟩,9) else (⟨ns.set an.toNat (zO2 x).pv,ss,ws,ds⟩,0)) else if x.up=false then (⟨ns,ss,ws,ds⟩,13) else if ak=5 then (zPD ⟨ns,ss,ws,ds⟩ an (zKD ss an.toNat) (zQx ss an.toNat) 0,0) else if ak=1 then zCy ⟨ns,ss,ws,ds⟩ (zJY x aw) else if inB ad.length 1 400=false then (⟨ns,ss,ws,ds⟩,4) else zCy ⟨ns,ss,ws,ds⟩ (zJX x ad):=fun h2 h3=>by
  rw[hS,if_neg (fun q=>absurd (zNX.1 q) (by omega)),if_pos (zRb.2 h2),if_neg (by simp[h3]),hx];rfl
 have hlt:inB an 0 (ns.length - 1)=true→an.toNat < ns.length∧0≤an∧an < ns.length:=fun h=>by have:=zk.1 h;omega
 have hF:inB an 0 (ns.length - 1)=true→NdF x:=fun h=>by rw[hx];exact(hI.at (i:=an.toNat) (hlt h).1).2.2.2.F
 have hv:inB an 0 (ns.length - 1)=true→(nth (nth ns an.toNat).A 10).L.length≤1048576:=fun h=>hI.vsm (i:=an.toNat) (hlt h).1
 have hN6a:ak=6→inB an 0 (ns.length - 1)=true→x.up=true→R=(⟨ns,ss,ws,ds⟩,9):=fun h1 h2 h3=>by rw[hS3 (by omega) h2,if_pos h1,if_pos h3]
 have hN6b:ak=6→inB an 0 (ns.length - 1)=true→x.up=false→R=(⟨ns.set an.toNat (zO2 x).pv,ss,ws,ds⟩,0):=fun h1 h2 h3=>by rw[hS3 (by omega) h2,if_pos h1,if_neg (by simp[h3])]
 have hN13:(ak=1∨ak=5∨ak=7)→inB an 0 (ns.length - 1)=true→x.up=false→R=(⟨ns,ss,ws,ds⟩,13):=fun h1 h2 h3=>by rw[hS3 (by omega) h2,if_neg (by omega),if_pos h3]
 have hN5:ak=5→inB an 0 (ns.length - 1)=true→x.up=true→R=(zPD ⟨ns,ss,ws,ds⟩ an (zKD ss an.toNat) (zQx ss an.toNat) 0,0):=fun h1 h2 h3=>by rw[hS3 (by omega) h2,if_neg (by omega),if_neg (by simp[h3]),if_pos h1]
 have ent:∀h:inB an 0 (ns.length - 1)=true,x.up=true→zJY x aw=cond (inB aw 0 1000000) ((zBD x aw).1,(zBD x aw).2,0) (ND.no,[],4):=fun h h3=>by rw[zJY,zIo (hF h),cond_true,h3,cond_true]
 have hN1a:ak=1→inB an 0 (ns.length - 1)=true→x.up=true→inB aw 0 1000000=false→R=(⟨ns,ss,ws,ds⟩,4):=fun h1 h2 h3 h4=>by rw[hS3 (by omega) h2,if_neg (by omega),if_neg (by simp[h3]),if_neg (by omega),if_pos h1,ent h2 h3,h4,cond_false,zCy,if_pos (by simp)]
 have hN1b:ak=1→inB an 0 (ns.length - 1)=true→x.up=true→inB aw 0 1000000=true→R=zKm ⟨ns,ss,ws,ds⟩ (zBD x aw).1 (zBD x aw).2:=fun h1 h2 h3 h4=>by rw[hS3 (by omega) h2,if_neg (by omega),if_neg (by simp[h3]),if_neg (by omega),if_pos h1,ent h2 h3,h4,cond_true,zCy,if_neg (by simp)]
 have hUt:inB an 0 (ns.length - 1)=true→x.up=true→inB aw 0 1000000=true→UpP ⟨ns,ss,ws,ds⟩ (zBD x aw).1:=fun h2 h3 h4=>by
  have e:=ent h2 h3
  rw[h4,cond_true,hx] at e
  have:=hI.nt_U (i:=an.toNat) (hlt h2).1 (d:=aw) (by rw[show yH (⟨ns,ss,ws,ds⟩:CL).ns an.toNat=yH ns an.toNat from rfl,e])
  rw[show yH (⟨ns,ss,ws,ds⟩:CL).ns an.toNat=yH ns an.toNat from rfl,e,←hx] at this
  exact this
 have hN7a:ak=7→inB an 0 (ns.length - 1)=true→x.up=true→inB ad.length 1 400=false→R=(⟨ns,ss,ws,ds⟩,4):=fun h1 h2 h3 h4=>by rw[hS3 (by omega) h2,if_neg (by omega),if_neg (by simp[h3]),if_neg (by omega),if_neg (by omega),if_pos h4]
 have epp:inB an 0 (ns.length - 1)=true→inB ad.length 1 400=true→zJX x ad=zKJ x ad:=fun h h4=>by
  have:=zk.1 h4
  rw[zJX,if_neg (by omega),zIo (hF h),cond_true,h4,cond_true];rfl
 have hN7b:ak=7→inB an 0 (ns.length - 1)=true→x.up=true→inB ad.length 1 400=true→¬(zKJ x ad).2.2=0→R=(⟨ns,ss,ws,ds⟩,(zKJ x ad).2.2):=fun h1 h2 h3 h4 h5=>by rw[hS3 (by omega) h2,if_neg (by omega),if_neg (by simp[h3]),if_neg (by omega),if_neg (by omega),if_neg (by simp[h4]),epp h2 h4,zCy,if_pos h5]
 have hN7c:ak=7→inB an 0 (ns.length - 1)=true→x.up=true→inB ad.length 1 400=true→(zKJ x ad).2.2=0→R=zKm ⟨ns,ss,ws,ds⟩ (zKJ x ad).1 (zKJ x ad).2.1:=fun h1 h2 h3 h4 h5=>by rw[hS3 (by omega) h2,if_neg (by omega),if_neg (by simp[h3]),if_neg (by omega),if_neg (by omega),if_neg (by simp[h4]),epp h2 h4,zCy,if_neg (by simp[h5])]
 have hUp:inB an 0 (ns.length - 1)=true→inB ad.length 1 400=true→(zKJ x ad).2.2=0→UpP ⟨ns,ss,ws,ds⟩ (zKJ x ad).1:=fun h2 h4 h5=>by
  have e:=epp h2 h4
  rw[←e] at h5 ⊢
  rw[hx] at h5 ⊢
  exact hI.pp_U (i:=an.toNat) (hlt h2).1 h5
 have sl:ss.length=ns.length:=hI.sl
 have hD:inB an 0 (ns.length - 1)=true→DnP ⟨ns,ss,ws,ds⟩ an (nth (nth ss an.toNat).A 0).S (nth (nth ss an.toNat).A 1).I:=fun h=>by
  obtain⟨b1,b2,b3,b4⟩:=hI.at (i:=an.toNat) (hlt h).1
  have b3:(nth (nth ss an.toNat).A 1).I=(nth (nth ss an.toNat).A 0).S.length:=b3
  have b5:(nth (nth ss an.toNat).A 0).S.length≤60000:=b4.l
  exact⟨(hlt h).2.1,(hlt h).1,hI.n5,sl,b5,by omega,by omega⟩
 have hRc:inB an 0 (ns.length - 1)=true→(yP ((nth (nth ss an.toNat).A 0).S.take (zU2 (nth (nth ss an.toNat).A 0).S.length (nth (nth ss an.toNat).A 1).I 0))).2.2=0:=fun h=>
  congrArg (fun q=>q.2.2) (zL4 hI (i:=an.toNat) (hlt h).1 0).r
 have a1:inB an 0 (ns.length - 1)=true→nth ns an.toNat=x.pv:=fun h=>by rw[hx];exact(hI.at (i:=an.toNat) (hlt h).1).1
 refine hW.vc [(25,[12],tkN [0,1,2,3,4,5,6,7,8] (alS 9 (tkN [10,11] (alN [12,13] .done))))] _ _ ?_
 simp[-List.getD_eq_getElem?_getD,zw,zCC,zJy,zIf,zNj,zI9,zE7,zT,w0,eA,zBd,CL.pv,ND.pv,zF3,zeu,←hR,zT,hx',zNX]
 rw[hu]
 clear hW hS hS3 hR
 repeat' (first | exact hI | apply And.intro | intro _)
 all_goals first
  | (exfalso;omega)
  | omega
  | assumption
  | decide +kernel
  | exact hF (by assumption)
  | exact hv (by assumption)
  | exact hD (by assumption)
  | exact hRc (by assumption)
  | exact hUt (by assumption) (by assumption) (by assumption)
  | exact hUp (by assumption) (by assumption) (by assumption)
  | exact(hlt (by assumption)).1
  | exact(hlt (by assumption)).2.1
  | exact(hlt (by assumption)).2.2
  | (have:=hlt (by assumption);omega)
  | exact(zk.1 (by assumption)).1
  | exact(zk.1 (by assumption)).2
  | rw[hS1 (by omega)]
  | rw[hS2 (by omega) (by assumption)]
  | rw[hS4 (by omega) (by omega)]
  | rw[hN6a (by omega) (by assumption) (by assumption)]
  | (rw[hN6b (by omega) (by assumption) (by assumption)];done)
  | (rw[hN6b (by omega) (by assumption) (by assumption),a1 (by assumption)];rfl)
  | rw[hN13 (by omega) (by assumption) (by assumption)]
  | (rw[hN5 (by omega) (by assumption) (by assumption)];done)
  | (rw[hN5 (by omega) (by assumption) (by assumption)];rfl)
  | rw[hN1a (by omega) (by assumption) (by assumption) (by assumption)]
  | rw[hN1b (by omega) (by assumption) (by assumption) (by assumption)]
  | rw[hN7a (by omega) (by assumption) (by assumption) (by assumption)]
  | rw[hN7b (by omega) (by assumption) (by assumption) (by assumption) (by assumption)]
  | rw[hN7c (by omega) (by assumption) (by assumption) (by assumption) (by assumption)]
  | trace_state
end
end Go.Proofs.YthogljppoiekaaaGreat
