/-
  Part 32: contracts of functions, and the laws by which they are proved.
  Conditions: none.
-/
import Derived.Test.YthogljppoiekaaaGreatW23
set_option linter.unusedVariables false
set_option linter.unusedSimpArgs false
set_option linter.unusedSectionVars false
set_option maxRecDepth 100000
namespace Go.Proofs.YthogljppoiekaaaGreat
section
variable [zS]
def zEy(v:List PV):ST:=⟨(nth v 0).I,(nth v 1).I,(nth v 2).L⟩
def zCx:zJ:=⟨[(.rd,.agg [.int .i64,.int .i64,.list (.agg [.int .i64,.str])])],[.agg [.int .i64,.int .i64,.list (.agg [.int .i64,.str])]],true,fun ps=>(nth (nth ps 0).A 2).L.length≤1048576,fun ps=>[nth ps 0],fun _=>[]⟩
theorem zTY:zh Tryz.prog 174 zCx:=by
 refine zP [0,1,2] [.cell 2 71] (zA (cs:=[]) zPA (zD (zB []))) mixed Tryz.func174 rfl (by decide) rfl (by decide) rfl ?_
 intro ps hT hpre W hW
 simp only[zCx,TyA,Ty,Tys] at hT hpre
 obtain⟨_,_,rfl,⟨_,rfl,_,_,rfl,⟨t,rfl,ht⟩,_,_,rfl,⟨v,rfl,hv⟩,_,_,rfl,⟨es,rfl,hes,tes⟩,rfl⟩,rfl⟩:=hT
 simp only[zE,zF,zBE,zAA] at hpre
 refine hW.vc [] _ _ ?_
 simp[-List.getD_eq_getElem?_getD,zCx,zKa]
 omega
def zPE:zJ:=zCx
theorem zZd:zh Tryz.prog 203 zPE:=by
 refine zP [0,1,2] [.cell 2 71] (zD (zB [])) mixed Tryz.func203 rfl (by decide) rfl (by decide) rfl ?_
 intro ps hT hpre W hW
 simp only[zPE,TyA,Ty,Tys] at hT hpre
 simp only[zCx,TyA,Ty,Tys] at hT hpre
 obtain⟨_,_,rfl,⟨_,rfl,_,_,rfl,⟨t,rfl,ht⟩,_,_,rfl,⟨v,rfl,hv⟩,_,_,rfl,⟨es,rfl,hes,tes⟩,rfl⟩,rfl⟩:=hT
 simp only[zE,zF,zBE,zAA] at hpre
 refine hW.vc [] _ _ ?_
 simp[-List.getD_eq_getElem?_getD,zPE,zCx,zCx]
 omega
theorem zN0{b:List UInt8}{k:Nat}:((zKE b k).2=true↔b.length=3*k)∧(b.length=3*k→(zKE b k).1=zC6 k b):=by
 unfold zKE
 split
 ·rename_i h;simp[h]
 ·rename_i h;simp[h]
def zWy(s:ST)(ok:Bool)(F:List PV):ST × Bool:=match (if ok=false∨F.length < 2 then none else zOU s F) with | none=>(ST.no,false) | some o=>(o,o.ok)
theorem zfM(s:ST)(r:List UInt8):zOo s r=zWy s (rdI r).2 (rdI r).1:=rfl
section
variable {s:ST} {ok:Bool} {F:List PV}
theorem zbA{b:List UInt8}(h:(zKE b 2).2=true):b.length=6∧(zKE b 2).1=zC6 2 b:=by
 have:=zN0.1.1 h
 exact⟨by omega,zN0.2 this⟩
theorem zZE{b:List UInt8}(h:(zKE b 1).2=true):b.length=3∧(zKE b 1).1=zC6 1 b:=by
 have:=zN0.1.1 h
 exact⟨by omega,zN0.2 this⟩
theorem za9{b:List UInt8}(h:(zKE b 2).2=true):(zKE b 2).1.length=2:=by rw[(zbA h).2,zK1]
theorem zbC{b:List UInt8}(h:(zKE b 1).2=true):(zKE b 1).1.length=1:=by rw[(zZE h).2,zK1]
theorem za8{b:List UInt8}(h:(zKE b 2).2=false):b.length≠6:=fun e=>by
 have:=zN0.1.2 (show b.length=3*2 from e)
 rw[h] at this;cases this
theorem zbB{b:List UInt8}(h:(zKE b 1).2=false):b.length≠3:=fun e=>by
 have:=zN0.1.2 (show b.length=3*1 from e)
 rw[h] at this;cases this
theorem ap_a(h:ok=false∨(F.length:Int) < 2):zWy s ok F=(ST.no,false):=by
 rw[zWy,if_pos (h.imp id fun h=>by omega)]
theorem zVC(h1:ok=true)(h2:2≤(F.length:Int)):zWy s ok F=match zOU s F with | none=>(ST.no,false) | some o=>(o,o.ok):=by
 rw[zWy,if_neg (by simp[h1];omega)]
theorem ap_b(h1:ok=true)(h2:2≤(F.length:Int))(hw:(nth F 0).S=[116])(hs:(zKE (nth F 1).S 2).2=false):zWy s ok F=(ST.no,false):=by
 rw[zVC h1 h2,zOU,if_pos hw,if_neg fun h=>za8 hs h.2.1]
theorem ap_c(h1:ok=true)(h2:2≤(F.length:Int))(hw:(nth F 0).S=[116])(hs:(zKE (nth F 1).S 2).2=true)(hl:(F.length:Int)=2)(ht:s.t≤(nth (zKE (nth F 1).S 2).1 0).I) :
  zWy s ok F=(⟨(nth (zKE (nth F 1).S 2).1 0).I,(nth (zKE (nth F 1).S 2).1 1).I,s.log⟩,stB (nth (zKE (nth F 1).S 2).1 0).I (nth (zKE (nth F 1).S 2).1 1).I s.log):=by
 obtain⟨e1,e2⟩:=zbA hs
 rw[e2] at ht ⊢
 have n0:zKN F 0=(nth (zC6 2 (nth F 1).S) 0).I:=by simp[zKN,zC6]
 have n1:zKN F 1=(nth (zC6 2 (nth F 1).S) 1).I:=by simp[zKN,zC6]
 rw[zVC h1 h2,zOU,if_pos hw,if_pos ⟨by omega,e1,by rw[n0];exact ht⟩,n0,n1];rfl
theorem ap_d(h1:ok=true)(h2:2≤(F.length:Int))(hw:(nth F 0).S=[116])(hs:(zKE (nth F 1).S 2).2=true)(hn:(nth F 0).S=[116]→(F.length:Int)=2→(nth (zKE (nth F 1).S 2).1 0).I < s.t):zWy s ok F=(ST.no,false):=by
 obtain⟨e1,e2⟩:=zbA hs
 rw[e2] at hn
 have n0:zKN F 0=(nth (zC6 2 (nth F 1).S) 0).I:=by simp[zKN,zC6]
 rw[zVC h1 h2,zOU,if_pos hw,if_neg fun h=>by have:=hn hw (by omega);rw[←n0] at this;omega]
theorem ap_e(h1:ok=true)(h2:2≤(F.length:Int))(hw:¬(nth F 0).S=[116])(hs:(zKE (nth F 1).S 1).2=false):zWy s ok F=(ST.no,false):=by
 have:=zbB hs
 rw[zVC h1 h2,zOU,if_neg hw]
 by_cases hc:(nth F 0).S=[99]
 ·rw[if_pos hc,if_neg fun h=>this h.2.1]
 ·rw[if_neg hc]
  by_cases he:(nth F 0).S=[101]
  ·rw[if_pos he,if_neg fun h=>this h.2]
  ·rw[if_neg he]
theorem ap_f(h1:ok=true)(h2:2≤(F.length:Int))(hw:(nth F 0).S=[99])(hs:(zKE (nth F 1).S 1).2=true)(hl:(F.length:Int)=2)(hi:inB (nth (zKE (nth F 1).S 1).1 0).I 0 ((s.log.length:Int) - 1)=true) :
  zWy s ok F=(⟨s.t,s.v,s.log.take (nth (zKE (nth F 1).S 1).1 0).I.toNat⟩,stB s.t s.v (s.log.take (nth (zKE (nth F 1).S 1).1 0).I.toNat)):=by
 obtain⟨e1,e2⟩:=zZE hs
 rw[e2] at hi ⊢
 have n0:zKN F 0=(nth (zC6 1 (nth F 1).S) 0).I:=by simp[zKN,zC6]
 have hi:=zk.1 hi
 rw[zVC h1 h2,zOU,if_neg (by rw[hw];decide),if_pos hw,if_pos ⟨by omega,e1,by rw[n0];exact hi.1,by rw[n0];exact hi.2⟩,n0];rfl
theorem ap_g(h1:ok=true)(h2:2≤(F.length:Int))(hw:(nth F 0).S=[101])(hs:(zKE (nth F 1).S 1).2=true)(hl:(F.length:Int)=3) :
  zWy s ok F=(⟨s.t,s.v,s.log++[.agg [.int .i64 (nth (zKE (nth F 1).S 1).1 0).I,.str (nth F 2).S]]⟩,stB s.t s.v (s.log++[.agg [.int .i64 (nth (zKE (nth F 1).S 1).1 0).I,.str (nth F 2).S]])):=by
 obtain⟨e1,e2⟩:=zZE hs
 rw[e2]
 have n0:zKN F 0=(nth (zC6 1 (nth F 1).S) 0).I:=by simp[zKN,zC6]
 rw[zVC h1 h2,zOU,if_neg (by rw[hw];decide),if_neg (by rw[hw];decide),if_pos hw,if_pos ⟨by omega,e1⟩,n0];rfl
theorem ap_h(h1:ok=true)(h2:2≤(F.length:Int))(hw:¬(nth F 0).S=[116])(hs:(zKE (nth F 1).S 1).2=true)(hc:(nth F 0).S=[99]→(F.length:Int)=2→inB (nth (zKE (nth F 1).S 1).1 0).I 0 ((s.log.length:Int) - 1)=false)(he:(nth F 0).S=[101]→¬(F.length:Int)=3):zWy s ok F=(ST.no,false):=by
 obtain⟨e1,e2⟩:=zZE hs
 rw[e2] at hc
 have n0:zKN F 0=(nth (zC6 1 (nth F 1).S) 0).I:=by simp[zKN,zC6]
 rw[zVC h1 h2,zOU,if_neg hw]
 by_cases hc':(nth F 0).S=[99]
 ·rw[if_pos hc',if_neg fun h=>by
   have:=hc hc' (by omega)
   rw[←n0] at this
   have h':=zk.2 ⟨h.2.2.1,h.2.2.2⟩
   rw[this] at h';cases h']
 ·rw[if_neg hc']
  by_cases he':(nth F 0).S=[101]
  ·rw[if_pos he',if_neg fun h=>he he' (by omega)]
  ·rw[if_neg he']
end
def zJ4:zJ:=⟨[(.rd,.agg [.int .i64,.int .i64,.list (.agg [.int .i64,.str])]),(.rd,.str)],[.agg [.int .i64,.int .i64,.list (.agg [.int .i64,.str])],.bool],true,fun ps=>(nth (nth ps 0).A 2).L.length≤1000,fun ps=>[.agg [.int .i64 (zOo (zEy (nth ps 0).A) (nth ps 1).S).1.t,.int .i64 (zOo (zEy (nth ps 0).A) (nth ps 1).S).1.v,.list (zOo (zEy (nth ps 0).A) (nth ps 1).S).1.log],.bool (zOo (zEy (nth ps 0).A) (nth ps 1).S).2],fun _=>[]⟩
set_option maxHeartbeats 0 in
theorem zYH:zh Tryz.prog 136 zJ4:=by
 refine zP [0,1,2,4,5,6,7,8,9,10] [.cell 4 71,.tmp 5] (zA (cs:=[]) zTX (zA (cs:=[]) zA9 (zA (cs:=[]) zSJ (zA (cs:=[]) zTY (zA (cs:=[]) zTS (zD (zB []))))))) mixed Tryz.func136 rfl (by decide) rfl (by decide) rfl ?_
 intro ps hT hpre W hW
 simp only[zJ4,TyA,Ty,Tys] at hT hpre
 obtain⟨_,_,rfl,⟨_,rfl,_,_,rfl,⟨t,rfl,ht⟩,_,_,rfl,⟨v,rfl,hv⟩,_,_,rfl,⟨es,rfl,hes,tes⟩,rfl⟩,_,_,rfl,⟨r,rfl,hr⟩,rfl⟩:=hT
 simp only[zE,zF,zBE,zAA] at hpre
 refine hW.vc [(12,[],tkN [0,1,2,3,4,5,6,7,8,9,10,11,12,13,14,15,16] (alS 17 .done)),(13,[7,9],tkN [0,1,2,3,6] (tkM [4] (.alt 5 (alS 7 (tkN [8] (alS 9 .done))) (alS 7 (tkN [5,8] (alS 9 .done)))))),(14,[],tkN [0,1,2,3,4,5,6,7,8,9,10,11,12,13,14,15,16] (alS 17 (tkN [18] (alS 19 .done)))),(15,[7],tkN [0,1,2,3,4,5,6] (alS 7 .done)),(17,[10,12],tkN [0,1,2,3,4,5,6,7,8] (alN [9,10] (tkN [11] (alS 12 .done)))),(18,[3],tkN [0,1] (alN [2,3,4] .done))] _ _ ?_
 simp[-List.getD_eq_getElem?_getD,zJ4,zFu,zCx,zHg,zT,zAg,zEy]
 rw[zfM]
 generalize (rdI r).1=F
 generalize (rdI r).2=ok
 rw[zC (n:=(es.length:Int) - 1) (by omega)]
 repeat' (first | apply And.intro | intro _)
 all_goals clear hW
 all_goals first
  | omega
  | decide +kernel
  | (exact absurd (Eq.trans (Eq.symm ‹(nth F 0).S=[116]›) ‹(nth F 0).S=[99]›) (by decide))
  | (exact absurd (Eq.trans (Eq.symm ‹(nth F 0).S=[116]›) ‹(nth F 0).S=[101]›) (by decide))
  | contradiction
  | (rw[ap_a (s:=⟨t,v,es⟩) (ok:=ok) (F:=F) (by assumption)]<;>rfl)
  | (rw[ap_b (s:=⟨t,v,es⟩) (ok:=ok) (F:=F) (by assumption) (by assumption) (by assumption) (by assumption)]<;>rfl)
  | (rw[ap_c (s:=⟨t,v,es⟩) (ok:=ok) (F:=F) (by assumption) (by assumption) (by assumption) (by assumption) (by assumption) (by assumption)])
  | (rw[ap_d (s:=⟨t,v,es⟩) (ok:=ok) (F:=F) (by assumption) (by assumption) (by assumption) (by assumption) (by assumption)]<;>rfl)
  | (rw[ap_e (s:=⟨t,v,es⟩) (ok:=ok) (F:=F) (by assumption) (by assumption) (by assumption) (by assumption)]<;>rfl)
  | (rw[ap_f (s:=⟨t,v,es⟩) (ok:=ok) (F:=F) (by assumption) (by assumption) (by assumption) (by assumption) (by assumption) (by assumption)])
  | (rw[ap_g (s:=⟨t,v,es⟩) (ok:=ok) (F:=F) (by assumption) (by assumption) (by assumption) (by assumption) (by assumption)])
  | (rw[ap_h (s:=⟨t,v,es⟩) (ok:=ok) (F:=F) (by assumption) (by assumption) (by assumption) (by assumption) (by assumption) (by assumption)]<;>rfl)
  | (have:=za9 ‹(zKE (nth F 1).S 2).2=true›;omega)
  | (have:=zbC ‹(zKE (nth F 1).S 1).2=true›;omega)
  | (have:=zk.1 ‹inB (nth (zKE (nth F 1).S 1).1 0).I 0 ((es.length:Int) - 1)=true›;omega)
def zYu(s:ST)(ok:Bool)(F:List PV):ST × Bool:=match (if ok=false∨F.length < 2 then none else zOU s F) with | none=>(s,false) | some o=>(o,o.ok)
def zZ5(s:ST)(r:List UInt8):ST × Bool:=match zNs s r with | none=>(s,false) | some o=>(o,o.ok)
theorem zb6(s:ST)(r:List UInt8):(zZ5 s r).2=(zOo s r).2∧((zOo s r).2=true→zZ5 s r=zOo s r):=by
 unfold zZ5 zOo
 cases zNs s r with
 | none=>simp
 | some o=>simp
section
variable {s:ST} {ok:Bool} {F:List PV}
theorem zXl{b:List UInt8}{k:Nat}(h:(zKM b).2=true)(hl:((zKM b).1.length:Int)=k):b.length=3*k∧(zKM b).1=zC6 k b:=by
 unfold zKM at h hl ⊢
 split at h
 ·rename_i h3
  rw[if_pos h3] at hl ⊢
  simp only[zK1] at hl
  have:b.length / 3=k:=by omega
  exact⟨by omega,by simp only[this]⟩
 ·cases h
theorem zes{b:List UInt8}(h:(zKM b).2=false):b.length % 3≠0:=by
 unfold zKM at h
 split at h
 ·cases h
 ·assumption
theorem zXk{b:List UInt8}(h:(zKM b).2=true){k:Nat}(hb:b.length=3*k):((zKM b).1.length:Int)=k:=by
 unfold zKM at h ⊢
 rw[if_pos (by omega)]
 simp only[zK1];omega
theorem aw_a(h:ok=false∨(F.length:Int) < 2):zYu s ok F=(s,false):=by
 rw[zYu,if_pos (h.imp id fun h=>by omega)]
theorem zWr(h1:ok=true)(h2:2≤(F.length:Int)):zYu s ok F=match zOU s F with | none=>(s,false) | some o=>(o,o.ok):=by
 rw[zYu,if_neg (by simp[h1];omega)]
theorem aw_b(h1:ok=true)(h2:2≤(F.length:Int))(hs:(zKM (nth F 1).S).2=false):zYu s ok F=(s,false):=by
 have:=zes hs
 rw[zWr h1 h2,zOU]
 by_cases ha:(nth F 0).S=[116]
 ·rw[if_pos ha,if_neg fun h=>by omega]
 ·rw[if_neg ha]
  by_cases hc:(nth F 0).S=[99]
  ·rw[if_pos hc,if_neg fun h=>by omega]
  ·rw[if_neg hc]
   by_cases he:(nth F 0).S=[101]
   ·rw[if_pos he,if_neg fun h=>by omega]
   ·rw[if_neg he]
theorem aw_c(h1:ok=true)(h2:2≤(F.length:Int))(hs:(zKM (nth F 1).S).2=true)(hw:(nth F 0).S=[116])(hl:(F.length:Int)=2)(hm:((zKM (nth F 1).S).1.length:Int)=2)(ht:s.t≤(nth (zKM (nth F 1).S).1 0).I) :
  zYu s ok F=(⟨(nth (zKM (nth F 1).S).1 0).I,(nth (zKM (nth F 1).S).1 1).I,s.log⟩,stB (nth (zKM (nth F 1).S).1 0).I (nth (zKM (nth F 1).S).1 1).I s.log):=by
 obtain⟨e1,e2⟩:=zXl (k:=2) hs hm
 rw[e2] at ht ⊢
 have n0:zKN F 0=(nth (zC6 2 (nth F 1).S) 0).I:=by simp[zKN,zC6]
 have n1:zKN F 1=(nth (zC6 2 (nth F 1).S) 1).I:=by simp[zKN,zC6]
 rw[zWr h1 h2,zOU,if_pos hw,if_pos ⟨by omega,e1,by rw[n0];exact ht⟩,n0,n1];rfl
theorem aw_d(h1:ok=true)(h2:2≤(F.length:Int))(hs:(zKM (nth F 1).S).2=true)(hw:(nth F 0).S=[116])(hm:((zKM (nth F 1).S).1.length:Int)=2)(hn:(nth (zKM (nth F 1).S).1 0).I < s.t):zYu s ok F=(s,false):=by
 obtain⟨e1,e2⟩:=zXl (k:=2) hs hm
 rw[e2] at hn
 have n0:zKN F 0=(nth (zC6 2 (nth F 1).S) 0).I:=by simp[zKN,zC6]
 rw[zWr h1 h2,zOU,if_pos hw,if_neg fun h=>by rw[n0] at h;omega]
theorem aw_f(h1:ok=true)(h2:2≤(F.length:Int))(hs:(zKM (nth F 1).S).2=true)(hw:(nth F 0).S=[99])(hl:(F.length:Int)=2)(hm:((zKM (nth F 1).S).1.length:Int)=1)(hi:inB (nth (zKM (nth F 1).S).1 0).I 0 ((s.log.length:Int) - 1)=true) :
  zYu s ok F=(⟨s.t,s.v,s.log.take (nth (zKM (nth F 1).S).1 0).I.toNat⟩,stB s.t s.v (s.log.take (nth (zKM (nth F 1).S).1 0).I.toNat)):=by
 obtain⟨e1,e2⟩:=zXl (k:=1) hs hm
 rw[e2] at hi ⊢
 have n0:zKN F 0=(nth (zC6 1 (nth F 1).S) 0).I:=by simp[zKN,zC6]
 have hi:=zk.1 hi
 rw[zWr h1 h2,zOU,if_neg (by rw[hw];decide),if_pos hw,if_pos ⟨by omega,e1,by rw[n0];exact hi.1,by rw[n0];exact hi.2⟩,n0];rfl
theorem aw_g(h1:ok=true)(h2:2≤(F.length:Int))(hs:(zKM (nth F 1).S).2=true)(hw:(nth F 0).S=[101])(hl:(F.length:Int)=3)(hm:((zKM (nth F 1).S).1.length:Int)=1) :
  zYu s ok F=(⟨s.t,s.v,s.log++[.agg [.int .i64 (nth (zKM (nth F 1).S).1 0).I,.str (nth F 2).S]]⟩,stB s.t s.v (s.log++[.agg [.int .i64 (nth (zKM (nth F 1).S).1 0).I,.str (nth F 2).S]])):=by
 obtain⟨e1,e2⟩:=zXl (k:=1) hs hm
 rw[e2]
 have n0:zKN F 0=(nth (zC6 1 (nth F 1).S) 0).I:=by simp[zKN,zC6]
 rw[zWr h1 h2,zOU,if_neg (by rw[hw];decide),if_neg (by rw[hw];decide),if_pos hw,if_pos ⟨by omega,e1⟩,n0];rfl
theorem aw_h(h1:ok=true)(h2:2≤(F.length:Int))(hs:(zKM (nth F 1).S).2=true)(ha:(nth F 0).S=[116]→(F.length:Int)=2→¬((zKM (nth F 1).S).1.length:Int)=2)(hc:(nth F 0).S=[99]→(F.length:Int)=2→((zKM (nth F 1).S).1.length:Int)=1→inB (nth (zKM (nth F 1).S).1 0).I 0 ((s.log.length:Int) - 1)=false)(he:(nth F 0).S=[101]→(F.length:Int)=3→¬((zKM (nth F 1).S).1.length:Int)=1):zYu s ok F=(s,false):=by
 rw[zWr h1 h2,zOU]
 by_cases ha':(nth F 0).S=[116]
 ·rw[if_pos ha',if_neg fun h=>ha ha' (by omega) (zXk (k:=2) hs h.2.1)]
 ·rw[if_neg ha']
  by_cases hc':(nth F 0).S=[99]
  ·rw[if_pos hc',if_neg fun h=>by
    have hm:=zXk (k:=1) hs h.2.1
    have:=hc hc' (by omega) hm
    obtain⟨e1,e2⟩:=zXl (k:=1) hs hm
    have n0:zKN F 0=(nth (zC6 1 (nth F 1).S) 0).I:=by simp[zKN,zC6]
    rw[e2,←n0] at this
    have h':=zk.2 ⟨h.2.2.1,h.2.2.2⟩
    rw[this] at h';cases h']
  ·rw[if_neg hc']
   by_cases he':(nth F 0).S=[101]
   ·rw[if_pos he',if_neg fun h=>he he' (by omega) (zXk (k:=1) hs h.2)]
   ·rw[if_neg he']
end
theorem rdS_I{r:List UInt8}(h:r.length≤65536):(rdS r).2=(rdI r).2∧((rdI r).2=true→(rdS r).1=(rdI r).1)∧((rdI r).2=false→(rdS r).1=[]):=by
 unfold rdS rdI
 rw[if_neg (by omega)]
 cases rdF r with
 | none=>simp
 | some x=>
  obtain⟨es,q⟩:=x
  cases q<;>simp
theorem zfL{s:ST}{r:List UInt8}(h:r.length≤65536):zZ5 s r=zYu s (rdS r).2 (rdS r).1:=by
 obtain⟨h1,h2,h3⟩:=rdS_I h
 cases hk:(rdI r).2 with
 | true=>rw[h1,h2 hk];rfl
 | false=>
  rw[h1,hk,h3 hk]
  have e:zNs s r=none:=if_pos (.inl hk)
  rw[zZ5,e]
  rfl
def zHn:zJ:=⟨[(.rd,.agg [.int .i64,.int .i64,.list (.agg [.int .i64,.str])]),(.rd,.str)],[.agg [.int .i64,.int .i64,.list (.agg [.int .i64,.str])],.bool],false,fun ps=>(nth (nth ps 0).A 2).L.length≤1000∧(nth ps 1).S.length≤65536,fun ps=>[.agg [.int .i64 (zZ5 (zEy (nth ps 0).A) (nth ps 1).S).1.t,.int .i64 (zZ5 (zEy (nth ps 0).A) (nth ps 1).S).1.v,.list (zZ5 (zEy (nth ps 0).A) (nth ps 1).S).1.log],.bool (zZ5 (zEy (nth ps 0).A) (nth ps 1).S).2],fun _=>[]⟩
set_option maxHeartbeats 0 in
theorem zWa:zh Tryz.prog 160 zHn:=by
 refine zP [0,1,2,4,5,6,7,8,9,10] [.cell 4 71,.tmp 5] (zA (cs:=[]) zJl (zA (cs:=[]) zEj (zA (cs:=[]) zZd (zA (cs:=[]) zOt (zA (cs:=[]) zYA (zD (zB []))))))) mixed Tryz.func160 rfl (by decide) rfl (by decide) rfl ?_
 intro ps hT hpre W hW
 simp only[zHn,TyA,Ty,Tys] at hT hpre
 obtain⟨_,_,rfl,⟨_,rfl,_,_,rfl,⟨t,rfl,ht⟩,_,_,rfl,⟨v,rfl,hv⟩,_,_,rfl,⟨es,rfl,hes,tes⟩,rfl⟩,_,_,rfl,⟨r,rfl,hr⟩,rfl⟩:=hT
 simp only[zE,zF,zBE,zAA,zEW] at hpre
 refine hW.vc [(10,[],tkN [0,1,2,3,4,5] .done),(14,[],tkN [0,1,2,3,4,5,6,7,8,9,10,11,12,13,14,15,16,17,18,19,20,21] (alS 22 (tkN [23] (alS 24 .done)))),(15,[7],tkN [0,1,2,3,4,5,6] (alS 7 .done)),(17,[10,12],tkN [0,1,2,3,4,5,6,7,8] (alN [9,10] (tkN [11] (alS 12 .done)))),(18,[3],tkN [0,1] (alN [2,3,4] .done))] _ _ ?_
 simp[-List.getD_eq_getElem?_getD,zHn,zJ1,zDJ,zPE,zCC,zDC,zCx,zT,zAg,zEy,zT,zCx,zAg]
 rw[zfL hpre.2]
 have hfl:(rdS r).2=true→1 < (rdS r).1.length→(nth (rdS r).1 1).S.length≤1048576:=fun h h1=>by
  have:=(zXV h).2.2 _ (zb h1)
  omega
 generalize (rdS r).1=F at *
 generalize (rdS r).2=ok at *
 rw[zC (n:=(es.length:Int) - 1) (by omega)]
 repeat' (first | apply And.intro | intro _)
 all_goals clear hW
 all_goals first
  | omega
  | decide +kernel
  | (exact hfl (by assumption) (by omega))
  | (rw[aw_a (s:=⟨t,v,es⟩) (ok:=ok) (F:=F) (by assumption)])
  | (rw[aw_b (s:=⟨t,v,es⟩) (ok:=ok) (F:=F) (by assumption) (by assumption) (by assumption)])
  | (rw[aw_c (s:=⟨t,v,es⟩) (ok:=ok) (F:=F) (by assumption) (by assumption) (by assumption) (by assumption) (by assumption) (by assumption) (by assumption)])
  | (rw[aw_d (s:=⟨t,v,es⟩) (ok:=ok) (F:=F) (by assumption) (by assumption) (by assumption) (by assumption) (by assumption) (by assumption)])
  | (rw[aw_f (s:=⟨t,v,es⟩) (ok:=ok) (F:=F) (by assumption) (by assumption) (by assumption) (by assumption) (by assumption) (by assumption) (by assumption)])
  | (rw[aw_g (s:=⟨t,v,es⟩) (ok:=ok) (F:=F) (by assumption) (by assumption) (by assumption) (by assumption) (by assumption) (by assumption)])
  | (rw[aw_h (s:=⟨t,v,es⟩) (ok:=ok) (F:=F) (by assumption) (by assumption) (by assumption) (by assumption) (by assumption) (by assumption)])
  | (have:=zk.1 ‹inB (nth (zKM (nth F 1).S).1 0).I 0 ((es.length:Int) - 1)=true›;omega)
  | trace_state
end
end Go.Proofs.YthogljppoiekaaaGreat
