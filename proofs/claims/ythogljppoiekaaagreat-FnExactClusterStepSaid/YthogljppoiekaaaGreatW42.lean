/-
  Part 42: contracts of functions, and the laws by which they are proved.
  Conditions: none.
-/
import Derived.Test.YthogljppoiekaaaGreatW40
set_option linter.unusedVariables false
set_option linter.unusedSimpArgs false
set_option linter.unusedSectionVars false
set_option maxRecDepth 100000
namespace Go.Proofs.YthogljppoiekaaaGreat
section
variable [zS]
open Go.Lib Go.RowKit
def zRg(A0:Hp)(r:Nat):Hp→Option (Nat × Nat)
 | []=>none
 | (k,_) :: A=>match zNJ A0 k with
  | some (r',i',_)=>if r'=r then some (k,i') else zRg A0 r A
  | none=>zRg A0 r A
def zWV(A:Hp)(r:Nat)(i:Nat):Prop × Hp:=
 match zRg A r A with
 | some (k,i')=>(match lk A k with
  | some (.arr _ T es _)=>(i'=i,zFA (yN [r] A) k (.arr (.vw []) T es .no))
  | _=>(True,yN [r] A))
 | none=>(True,yN [r] A)
def dRes(N:Nat)(keep:List Nat)(S:St)(o:Oper)(K:St→Prop):Prop:=
 match o.op with
 | .call c=>(match c.callee,c.args.toList with
  | .value f,[x,y,z]=>(match S.ev f,S.ev x,S.ev y,S.ev z with
   | some (true,.fn g []),some (true,.sl r),some (true,.int .i64 i),some (true,.int .i64 i2)=>(match lk S.A r with
    | some (.arr .dp T es _)=>g=146∧T=(.agg [.int .i64,.int .i64,.int .i64,.int .i64,.int .i64,.int .i64,.int .i64,.bool,.list (.agg [.int .i64,.str])])∧o.guard=none∧zET N keep true o.dst∧0≤i∧i.toNat < es.length∧i2=i+1∧(zWV S.A r i.toNat).1 ∧
     K (zJW keep S true o.dst ⟨True,True,.sl S.n,(S.n,.arr .dp (.agg [.int .i64,.int .i64,.int .i64,.int .i64,.int .i64,.int .i64,.int .i64,.bool,.list (.agg [.int .i64,.str])]) (es.eraseIdx i.toNat) .no) :: (zWV S.A r i.toNat).2,S.n+1⟩)
    | _=>False)
   | _,_,_,_=>False)
  | _,_=>False)
 | _=>False
structure zaz (N:Nat) (keep:List Nat) (W:List KI→St→Prop):Prop where
 pln:∀(bs:List Nat) (p:PlH) (id:Nat) (ops:Array Oper) (k:List KI) (S:St),zPq ops bs p→vcH ⟨zAo,[]⟩ N keep ops.toList bs (fun i S K=>match ops.toList[i]? with | some o=>dRes N keep S o K | none=>False) (fun S'=>W k S') [] p { S with Lt:=[] }→W (.code (.region id ops true) :: k) S
section
variable {C:Cx} {S:St} {a:Act} {w w':World} {o:Oper} {all l:List Oper} {k:List KI}
theorem zMp{A0:Hp}{r:Nat}:∀{A:Hp} {k i:Nat},zRg A0 r A=some (k,i)→∃j,zNJ A0 k=some (r,i,j)
 | [],_,_,h=>by cases h
 | (k0,_) :: A,k,i,h=>by
  simp only[zRg] at h
  split at h
  ·rename_i r' i' j' hp
   split at h
   ·rename_i hr
    cases h
    exact⟨j',by rw[hp,hr]⟩
   ·exact zMp h
  ·exact zMp h
theorem zUY{A:Hp}{k r i j:Nat}(h:zNJ A k=some (r,i,j)):∃rs T es,lk A k=some (.arr (.vw rs) T es (.el r i j)):=by
 unfold zNJ at h
 split at h
 ·rename_i rs T es r' i' j' e
  cases h
  exact⟨rs,T,es,e⟩
 ·cases h
structure zgf (B:Nat) (X F:List Nat) (A:Hp) (β:Nat→GV) (w:World) (n:Nat) (G:List Nat):Prop where
 ex:∃ϕ',yO B X F A β ϕ' w∧zCi A ϕ' G∧(∀i hl,lk A i=some hl→∀b∈zq (ϕ' i) hl,b ∉ G)
 bd:Bd n β A
theorem zUj{B:Nat}{X F:List Nat}{A:Hp}{β:Nat→GV}{ϕ:Nat→List Nat}(hp:yO B X F A β ϕ w)(hb:Bd S.n β A){r i:Nat}{es:List PV}{p:Pth}(hr:lk A r=some (.arr .dp (.agg [.int .i64,.int .i64,.int .i64,.int .i64,.int .i64,.int .i64,.int .i64,.bool,.list (.agg [.int .i64,.str])]) es p))(hk:(zWV A r i).1)
  {b:Nat} {f1 f2 f3:List Nat} {c2:List Value} (hf:ϕ r=b :: (f1++(f2++f3))) (hi:i < es.length) (hL:Lo w (yf (.agg [.int .i64,.int .i64,.int .i64,.int .i64,.int .i64,.int .i64,.int .i64,.bool,.list (.agg [.int .i64,.str])]) 1) (yb [nth es i]) c2 f2) (hc:∀j u,j < 9→zTv w (β r).v (i*9+j) u→c2[j]?=some u)
  (hw:∀k,k≠b→w'.heap[k]?=w.heap[k]?):zgf B X F (zWV A r i).2 β w' S.n (b :: (f1++f3)):=by
 have hnd:(ϕ r).Nodup:=hp.nd _ _ hr
 rw[hf] at hnd
 have hst:=hp.struck [r]
 have hap:zCi (yN [r] A) ϕ (ϕ r):=zBI hp fun x hx=>⟨r,by simp,_,hr,by simpa[zq] using hx⟩
 have hsub:∀x∈b :: (f1++f3),x∈ϕ r:=fun x hx=>by
  rw[hf]
  simp only[List.mem_cons,List.mem_append] at hx ⊢
  rcases hx with h | h | h
  ·exact .inl h
  ·exact .inr (.inl h)
  ·exact .inr (.inr (.inr h))
 have hst':yO B X F (yN [r] A) β ϕ w':=hst.world fun j hl hj hd x hx=>hw x fun e=>hap j hl hj hd x hx (by rw[e,hf];simp)
 have base:zgf B X F (yN [r] A) β w' S.n (b :: (f1++f3)):=by
  refine⟨⟨ϕ,hst',hap.mono hsub,fun j hl hj x hx hm=>?_⟩,zCp hb [r]⟩
  by_cases hd:hl=.dead
  ·subst hd;simp[zq] at hx
  ·exact hap j hl hj hd x (zAC x hx) (hsub x hm)
 unfold zWV at hk ⊢
 split
 ·rename_i k i' hfv
  rw[hfv] at hk
  simp only at hk
  obtain⟨j,hpo⟩:=zMp hfv
  obtain⟨rs,T,es',hlk⟩:=zUY hpo
  rw[hlk] at hk ⊢
  simp only at hk ⊢
  subst hk
  obtain⟨q1,T',es0,p0,q2,q3,q4,q5,q6⟩:=hp.pt _ _ hlk
  rw[hr] at q2
  cases q2
  have hj:j < 9:=by
   have:=(List.getElem?_eq_some_iff.1 q4).1
   exact this
  have hcj:=hc j _ hj q6
  have e1:yf (.agg [.int .i64,.int .i64,.int .i64,.int .i64,.int .i64,.int .i64,.int .i64,.bool,.list (.agg [.int .i64,.str])]) 1=(.agg [.int .i64,.int .i64,.int .i64,.int .i64,.int .i64,.int .i64,.int .i64,.bool,.list (.agg [.int .i64,.str])]:PTy).leaves:=by simp[yf]
  have e2:yb [nth es i']=(nth es i').leaves:=by simp[yb]
  rw[e1,e2] at hL
  obtain⟨g,g1,g2⟩:=zbh hL q4 q5 hcj
  have hg2:∀x∈g,x∈ϕ r:=fun x hx=>by rw[hf];simp[g1 x hx]
  have hgG:∀x∈g,x ∉ b :: (f1++f3):=fun x hx hm=>by
   have h2:=g1 x hx
   simp only[List.nodup_cons,List.mem_append,List.nodup_append,List.mem_cons] at hnd hm
   rcases hm with rfl | hm | hm
   ·exact hnd.1 (.inr (.inl h2))
   ·exact hnd.2.2.2 x hm x (.inl h2) rfl
   ·exact hnd.2.2.1.2.2 x h2 x hm rfl
  have hgw:Lv w' [.list T] [.list es'] [(β k).v] g:=g2.frame fun x hx=>hw x fun e=>hgG x hx (by rw[e];simp)
  have hkr:k≠r:=fun e=>by subst e;rw[hr] at hlk;cases hlk
  have hdd:∀hl,lk (yN [r] A) k=some hl→hl=.dead:=fun hl hh=>by
   by_cases hd:hl=.dead
   ·exact hd
   ·obtain⟨a1,a2,a3⟩:=zBl hh hd
    rw[hlk] at a1
    cases a1
    exact absurd (by simp) (a3 r q1)
  have hown:∀(j:Nat) hl,lk (yN [r] A) j=some hl→∀x∈zq (ϕ j) hl,x ∉ ϕ r:=fun j hl hj x hx hm=>by
   by_cases hd:hl=.dead
   ·subst hd;simp[zq] at hx
   ·exact hap j hl hj hd x (zAC x hx) hm
  have hput:=hst'.put (A':=zFA (yN [r] A) k (.arr (.vw []) T es' .no)) (n:=k) (hl0:=.arr (.vw []) T es' .no) (f:=g) (fun j=>yZ _ _ _) hdd hgw (by simp[zq]) (fun _ x hx=>hp.all r _ hr trivial x (hg2 x hx)) trivial (by intro _ _ _ _ _ _ hm;simp[zq] at hm) (fun j hl hj _ x hx hm=>hown j hl hj x hx (hg2 x hm)) trivial (by intro _ _ _ h;cases h) (by simp[yc])
  refine⟨⟨_,hput,zHP (hap.mono hsub) (fun j=>yZ _ _ _) hgG,fun j hl hj x hx hm=>?_⟩,zJB (zCp hb [r]) (fun j=>yZ _ _ _) (hb _ _ hlk).1 (by simp[HL.ltOk])⟩
  rw[yZ] at hj
  split at hj
  ·rename_i e;cases hj;simp[zq] at hx
  ·rename_i e;rw[zIu _ _ _ e] at hx;exact hown j hl hj x hx (hsub x hm)
 ·exact base
theorem zfF(hP:C.P=Tryz.prog){i0:Nat}{K':St→Prop}{Q:Exit→Act→World→Prop}(hoi:all[i0]?=some o)(hat:At C S a w)(h:dRes C.N C.keep S o K'):wpOp C.P all.toArray Q i0 (fun a' w'=>∃S',At C S' a' w'∧K' S') a w:=by
 unfold wpOp
 simp only[List.getElem?_toArray,hoi]
 obtain⟨kp,hn,β,ϕ,sat,h0⟩:=hat
 unfold dRes at h
 have hgd:o.guard=none→Region.wanted o (yielded all.toArray a.tmps)=true:=fun hg=>yh (g:=true) (by rw[hg];rfl) sat
 split at h
 ·rename_i c ho
  split at h
  ·rename_i f x y z hc hargs
   split at h
   ·rename_i g r i i2 hf hx hy hz
    split at h
    ·rename_i T es p hl
     obtain⟨rfl,rfl,hg,hd,hi0,hi1,rfl,hkv,hk⟩:=h
     rw[if_pos (hgd hg)]
     obtain⟨x1,x2⟩:=zi hx sat
     have hxv:=(x2 rfl).1
     obtain⟨_,y2⟩:=zi hy sat
     have hyv:=(y2 rfl).1
     obtain⟨_,z2⟩:=zi hz sat
     have hzv:=(z2 rfl).1
     obtain⟨_,f2⟩:=zi hf sat
     obtain⟨f3,_⟩:=f2 rfl
     have hrun:=zGz (P:=C.P) (w:=w) (ob:=True) (vs:=[.sl r,.int .i64 i,.int .i64 (i+1)]) ho hc f3 (by rw[hargs];simp[SV.vals,hxv,hyv,hzv]) (by rw[hP];exact Tryz.func146) (by kernel_rfl) (by kernel_rfl)
     have hD:zIn w (β r).v (.agg [.int .i64,.int .i64,.int .i64,.int .i64,.int .i64,.int .i64,.int .i64,.bool,.list (.agg [.int .i64,.str])]) es (ϕ r):=sat.hp.sat _ _ hl
     have hnd:(ϕ r).Nodup:=sat.hp.nd _ _ hl
     obtain⟨b,f1,f2',f3',c2,hfe,hL,hcc,hcall⟩:=zbx hD hnd hi1
     have ei:((i.toNat:Nat):Int)=i:=Int.toNat_of_nonneg hi0
     rw[ei] at hcall
     refine .inl ?_
     unfold Oper.wp
     rw[hrun,Oper.upon_enter,hP]
     have harr:(SV.vals β ([.sl r,.int .i64 i,.int .i64 (i+1)]++[])).toArray=#[(β r).v,.int .i64 i,.int .i64 (i+1)]:=by simp[SV.vals,SV.val]
     rw[harr]
     refine hcall.mono fun e w' he=>?_
     obtain⟨v',rfl,hD',hw',ho1,ho2,ho3,hsz⟩:=he
     obtain⟨⟨ϕ',hp',hap',hown'⟩,hbd'⟩:=zUj (S:=S) (w':=w') sat.hp sat.hb hl hkv hfe hi1 hL hcc hw'
     have hsub:∀x∈b :: (f1++f3'),x∈ϕ r:=fun x hx=>by
      rw[hfe]
      simp only[List.mem_cons,List.mem_append] at hx ⊢
      rcases hx with h | h | h
      ·exact .inl h
      ·exact .inr (.inl h)
      ·exact .inr (.inr (.inr h))
     have hnd':(b :: (f1++f3')).Nodup:=by
      rw[hfe] at hnd
      refine hnd.sublist ?_
      exact List.Sublist.cons_cons _ (List.Sublist.append (List.Sublist.refl _) (List.sublist_append_right _ _))
     have hLv:Lv w' [.list (.agg [.int .i64,.int .i64,.int .i64,.int .i64,.int .i64,.int .i64,.int .i64,.bool,.list (.agg [.int .i64,.str])])] [.list (es.eraseIdx i.toNat)] [v'] (b :: (f1++f3')):=zIn.lv hD'
     have hadd:=hp'.add (n:=S.n) (hl0:=.arr .dp (.agg [.int .i64,.int .i64,.int .i64,.int .i64,.int .i64,.int .i64,.int .i64,.bool,.list (.agg [.int .i64,.str])]) (es.eraseIdx i.toNat) .no) (g:=⟨v',[],[]⟩) (f:=b :: (f1++f3')) hbd' (zN6 hLv) hD' (fun x hx=>sat.hp.own r _ hl x (by simpa[zq] using hsub x (by simpa[zq] using hx))) (fun _ x hx=>sat.hp.all r _ hl trivial x (hsub x hx)) hnd' (by simpa[zq] using hap') (fun j hl' hj _=>hown' j hl' hj) trivial (by simp[yc]) (by simp[yc])
     have hF:Fr w (ϕ r) w':=⟨ho1,ho2,ho3,by omega,fun x _ hx=>hw' x fun e=>hx (by rw[e,hfe];simp)⟩
     have hfr:Fr C.w0 C.X w':=sat.fr.trans hF (fun x hx=>hx) (fun x hx=>sat.hp.own r _ hl x (by simpa[zq] using hx))
     show ∃S',At C S' (a.put o.dst v') w'∧K' S'
     refine⟨_,zBe (v:=v') kp hn sat h0 hd ⟨fun _=>?_,fun h hh=>zBS _ _ _ hh,hadd,zFO hbd' ?_,?_,?_,Nat.le_succ _,hfr⟩,hk⟩
     ·simp[SV.val,zA0]
     ·simp[HL.ltOk]
     ·show SV.lt _ (SV.sl _)
      simp[SV.lt]
     ·trivial
    ·exact h.elim
   ·exact h.elim
  ·exact h.elim
 ·exact h.elim
theorem zYa(hC:C.Ok)(hP:C.P=Tryz.prog):zaz C.N C.keep (WP C):=by
 refine⟨fun bs p id ops k S hp h=>zVN hC (by rw[hP];exact zD (zB [])) (fun Q i S a w K' hat hh=>?_) (fun S hS=>hS) hp h⟩
 split at hh
 ·rename_i o ho
  exact zfF hP ho hat hh
 ·exact hh.elim
end
theorem dG{N:Nat}{keep:List Nat}(C:Cx)(hC:C.Ok)(hP:C.P=Tryz.prog)(hN:C.N=N)(hk:C.keep=keep):zaz N keep (WP C):=by
 subst hN hk
 exact zYa hC hP
end
end Go.Proofs.YthogljppoiekaaaGreat
