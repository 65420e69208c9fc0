/-
  Part 4: contracts of functions, and the laws by which they are proved.
  Conditions: none.
-/
import Derived.Test.YtdmbfkooebldcaaGreatDoorW3
import Derived.Laws.IdiomCopy
import Derived.Orders
import Derived.OrdersHeld
set_option linter.unusedVariables false
set_option linter.unusedSimpArgs false
set_option linter.unusedSectionVars false
set_option maxRecDepth 100000
namespace Go.Proofs.YtdmbfkooebldcaaGreatDoor
section
variable [zZ]
section
variable {P:Program} {E:Env} {N:Nat} {w0:World} {X F:List Nat} {S:St} {β:Nat→GV} {ϕ:Nat→List Nat} {a:Act} {w w':World} {o:Oper} {R:RR} {A:Hp} {B:Nat}
theorem LoP.at{O:Value→PTy→List PV→List Nat→Prop}{Ts:List PTy}{ps:List PV}{vs:List Value}{fs:List (List Nat)}(h:LoP O Ts ps vs fs):∀{k:Nat} {T:PTy},Ts[k]?=some (.list T) →
  ∃es v f,ps[k]?=some (.list es)∧vs[k]?=some v∧fs[k]?=some f∧O v T es f:=by
 induction h with
 | nil=>intro k T hk;simp at hk
 | int _ _ ih=>intro k T hk;cases k with
  | zero=>simp at hk
  | succ k=>simpa using ih (by simpa using hk)
 | bool _ ih=>intro k T hk;cases k with
  | zero=>simp at hk
  | succ k=>simpa using ih (by simpa using hk)
 | str _ _ ih=>intro k T hk;cases k with
  | zero=>simp at hk
  | succ k=>simpa using ih (by simpa using hk)
 | list hO _ ih=>intro k T hk;cases k with
  | zero=>simp at hk;subst hk;exact⟨_,_,_,rfl,rfl,rfl,hO⟩
  | succ k=>simpa using ih (by simpa using hk)
theorem LoP.put{O O':Value→PTy→List PV→List Nat→Prop}{Ts:List PTy}{ps:List PV}{vs:List Value}{fs:List (List Nat)}(h:LoP O Ts ps vs fs):∀{k:Nat} {T:PTy} {es':List PV} {v:Value} {f':List Nat},Ts[k]?=some (.list T)→vs[k]?=some v→O' v T es' f' →
  (∀m f,m≠k→fs[m]?=some f→∀v T es,O v T es f→O' v T es f)→LoP O' Ts (ps.set k (.list es')) vs (fs.set k f'):=by
 induction h with
 | nil=>intro k T es' v f' hk;simp at hk
 | int h0 h1 ih=>
  intro k T es' v f' hk hv hO hoth
  cases k with
  | zero=>simp at hk
  | succ k=>exact .int h0 (ih (by simpa using hk) (by simpa using hv) hO fun m f hm hf=>hoth (m+1) f (by omega) (by simpa using hf))
 | bool h1 ih=>
  intro k T es' v f' hk hv hO hoth
  cases k with
  | zero=>simp at hk
  | succ k=>exact .bool (ih (by simpa using hk) (by simpa using hv) hO fun m f hm hf=>hoth (m+1) f (by omega) (by simpa using hf))
 | str h0 h1 ih=>
  intro k T es' v f' hk hv hO hoth
  cases k with
  | zero=>simp at hk
  | succ k=>exact .str h0 (ih (by simpa using hk) (by simpa using hv) hO fun m f hm hf=>hoth (m+1) f (by omega) (by simpa using hf))
 | list h0 h1 ih=>
  intro k T es' v f' hk hv hO hoth
  cases k with
  | zero=>
   simp at hk hv
   subst hk hv
   refine .list hO ?_
   exact h1.mono fun v T es f hf hv=>by
    obtain⟨m,hm,e⟩:=List.mem_iff_getElem.1 hf
    exact hoth (m+1) f (by omega) (by rw[List.getElem?_cons_succ,List.getElem?_eq_getElem hm,e]) v T es hv
  | succ k=>exact .list (hoth 0 _ (by omega) rfl _ _ _ h0) (ih (by simpa using hk) (by simpa using hv) hO fun m f hm hf=>hoth (m+1) f (by omega) (by simpa using hf))
theorem zEj{α:Type}:∀{fs:List (List α)},fs.flatten.Nodup→∀{m k:Nat} {f g:List α},fs[m]?=some f→fs[k]?=some g→m≠k→∀x∈f,x ∉ g
 | [],_,m,k,f,g,hf,_,_=>by simp at hf
 | h :: fs,hn,m,k,f,g,hf,hg,hne=>by
  rw[List.flatten_cons] at hn
  obtain⟨n1,n2,n3⟩:=List.nodup_append.1 hn
  intro x hx hm
  cases m with
  | zero=>
   cases k with
   | zero=>exact hne rfl
   | succ k=>
    simp at hf hg;subst hf
    exact n3 x hx x (List.mem_flatten.2 ⟨g,List.mem_of_getElem? hg,hm⟩) rfl
  | succ m=>
   cases k with
   | zero=>
    simp at hf hg;subst hg
    exact n3 x hm x (List.mem_flatten.2 ⟨f,List.mem_of_getElem? hf,hx⟩) rfl
   | succ k=>exact zEj n2 (by simpa using hf) (by simpa using hg) (by omega) x hx hm
theorem zKQ{α:Type}:∀{fs:List (List α)} {k:Nat} {g f':List α},fs.flatten.Nodup→fs[k]?=some g→f'.Nodup→(∀x∈f',x∈g∨x ∉ fs.flatten)→(fs.set k f').flatten.Nodup∧∀x∈(fs.set k f').flatten,x∈fs.flatten∨x∈f'
 | [],k,g,f',_,hk,_,_=>by simp at hk
 | h :: fs,k,g,f',hn,hk,hf,hx=>by
  rw[List.flatten_cons] at hn
  obtain⟨n1,n2,n3⟩:=List.nodup_append.1 hn
  cases k with
  | zero=>
   simp at hk;subst hk
   simp only[List.set_cons_zero,List.flatten_cons]
   refine⟨List.nodup_append.2 ⟨hf,n2,fun x h1 y h2 e=>?_⟩,fun x hm=>?_⟩
   ·subst e
    rcases hx x h1 with h3 | h3
    ·exact n3 x h3 x h2 rfl
    ·exact h3 (by simp only[List.flatten_cons,List.mem_append];exact .inr h2)
   ·rcases List.mem_append.1 hm with h1 | h1
    ·exact .inr h1
    ·exact .inl (List.mem_append.2 (.inr h1))
  | succ k=>
   simp only[List.set_cons_succ,List.flatten_cons]
   have hk':fs[k]?=some g:=by simpa using hk
   have hgs:∀x∈g,x∈fs.flatten:=fun x hm=>List.mem_flatten.2 ⟨g,List.mem_of_getElem? hk',hm⟩
   obtain⟨r1,r2⟩:=zKQ n2 hk' hf (fun x hm=>(hx x hm).imp id fun h3 h4=>h3 (by simp only[List.flatten_cons,List.mem_append];exact .inr h4))
   refine⟨List.nodup_append.2 ⟨n1,r1,fun x h1 y h2 e=>?_⟩,fun x hm=>?_⟩
   ·subst e
    rcases r2 x h2 with h3 | h3
    ·exact n3 x h1 x h3 rfl
    ·rcases hx x h3 with h4 | h4
     ·exact n3 x h1 x (hgs x h4) rfl
     ·exact h4 (by simp only[List.flatten_cons,List.mem_append];exact .inl h1)
   ·rcases List.mem_append.1 hm with h1 | h1
    ·exact .inl (List.mem_append.2 (.inl h1))
    ·exact(r2 x h1).imp (fun h=>List.mem_append.2 (.inr h)) id
theorem zN1{T:PTy}{n i j:Nat}(hi:i < n)(hj:j < T.wd):(zX T n)[i*T.wd+j]?=T.leaves[j]?:=by
 have e:n=i+(1+(n - (i+1))):=by omega
 rw[e,yE,yE,zGH,List.getElem?_append_right (by rw[yU];omega),yU,Nat.add_sub_cancel_left,List.getElem?_append_left hj]
theorem zN2{T:PTy}{es:List PV}(hS:∀e∈es,Shp T e){i j:Nat}(hi:i < es.length)(hj:j < T.wd):(zT es)[i*T.wd+j]?=(es.getD i PV.d).leaves[j]?:=by
 have hs:=zHI es hi
 have h1:(zT (es.take i)).length=i*T.wd:=by
  rw[ya (T:=T) fun e he=>hS e (List.mem_of_mem_take he),List.length_take,Nat.min_eq_left (by omega)]
 have h2:(es.getD i PV.d).leaves.length=T.wd:=zAm (hS _ (zC4 hi))
 conv=>lhs;rw[hs]
 rw[zx,List.getElem?_append_right (by omega),h1,Nat.add_sub_cancel_left]
 show(List.flatMap PV.leaves (_ :: _))[j]?=_
 rw[List.flatMap_cons,List.getElem?_append_left (by omega)]
theorem zMl{ts:List PTy}{es:List PV}(hS:∀e∈es,Shp (.agg ts) e){i j:Nat}{q:PV}(hi:i < es.length)(hj:j < ts.length) :
  zT (es.set i (.agg ((es.getD i PV.d).A.set j q)))=(zT es).set (i*(PTy.agg ts).wd+j) q:=by
 have hs:=zHI es hi
 have h1:(zT (es.take i)).length=i*(PTy.agg ts).wd:=by
  rw[ya (T:=.agg ts) fun e he=>hS e (List.mem_of_mem_take he),List.length_take,Nat.min_eq_left (by omega)]
 have h0:=hS _ (zC4 hi)
 have h2:(es.getD i PV.d).leaves.length=(PTy.agg ts).wd:=zAm h0
 have h3:(es.getD i PV.d).leaves=(es.getD i PV.d).A:=by
  generalize es.getD i PV.d=e at h0
  obtain⟨qs,rfl,_⟩:=h0
  rfl
 have hw:(PTy.agg ts).wd=ts.length:=rfl
 rw[List.set_eq_take_append_cons_drop,if_pos hi,zx]
 conv=>rhs;rw[hs]
 rw[zx,List.set_append_right _ _ (by omega),h1,Nat.add_sub_cancel_left]
 congr 1
 show List.flatMap PV.leaves (_ :: _)=(List.flatMap PV.leaves (_ :: _)).set j q
 rw[List.flatMap_cons,List.flatMap_cons,List.set_append_left _ _ (by omega),h3]
 rfl
theorem zQH{s:zS}{ob:Prop}{ps:List PV}{xs:List SV}{fid:Nat}{R0:RR}(hm:zJp P fid s)(hps:zDc S.A s.args xs=some (ob,ps))(hcr:zIf S true s ob ps xs=some R0)(hk:SV.oks β xs)(hlt:SV.lts S.n xs)(sat:Sat N w0 X F S β ϕ a w)(hob:R0.ob) :
  R0.hy∧Calls P fid (SV.vals β xs).toArray w fun e w'=>∃v β' ϕ',e=.returned v∧zLU w0 X F S R0 β ϕ o.dst v w' β' ϕ':=by
 obtain⟨args,ret,fresh,pre,res,out⟩:=s
 simp only[zIf] at hcr
 split at hcr
 case h_2=>cases hcr
 rename_i T0 ts h ys q hout0
 split at hcr
 case h_2=>cases hcr
 rename_i r i j hpath
 split at hcr
 case h_2=>cases hcr
 rename_i tt es p2 hr
 cases hcr
 obtain⟨_,q1,q2,hfresh,hlen,hall,hrd⟩:=hob
 refine⟨trivial,?_⟩
 simp only at hfresh hlen hall hrd q2 hps hm hout0 ⊢
 have hv:∃rs T1 es1,lk S.A h=some (.arr (.vw rs) T1 es1 (.el r i j)):=by
  unfold zJ7 at hpath
  split at hpath
  ·rename_i rs T1 es1 r' i' j' e
   cases hpath
   exact⟨_,_,_,e⟩
  ·cases hpath
 obtain⟨rs,T1,es1,hlk⟩:=hv
 simp only[zDc] at hps
 split at hps
 case h_2=>cases hps
 rename_i o1 p o2 qs hp1 hps2
 simp only[Option.some.injEq,Prod.mk.injEq] at hps
 obtain⟨rfl,rfl⟩:=hps
 have hp1:yS S.A (.list T0) (.sl h)=some (o1,p):=hp1
 simp only[yS,hlk,Option.some.injEq,Prod.mk.injEq] at hp1
 obtain⟨rfl,rfl⟩:=hp1
 obtain⟨hT0,ho2⟩:=q1
 subst hT0
 obtain⟨hrs,T',es',p',hr',hi,hj,hje,b0,o0,c0,t0,fr0,hadr,hblk0,hcell⟩:=sat.hp.pt _ _ hlk
 rw[hr] at hr';cases hr'
 have hwd:(PTy.agg tt).wd=tt.length:=rfl
 have hjl:j < tt.length:=by
  have:=List.getElem?_eq_some_iff.1 hj
  exact this.1
 have hO:zCG w (β r).v (.agg tt) es (ϕ r):=sat.hp.sat _ _ hr
 have hnd:(ϕ r).Nodup:=sat.hp.nd _ _ hr
 rcases hO with ⟨e0,_⟩ | ⟨b,f1,cs,hϕ,hroom,hS,fs,hf1,hL⟩
 ·subst e0;simp at hi
 have hTk:=(zN1 (T:=.agg tt) (n:=es.length) hi (by rw[hwd];exact hjl)).trans hj
 obtain⟨es2,v,f,g1,g2,g3,hOF⟩:=hL.at hTk
 have hPk:=(zN2 hS hi (by rw[hwd];exact hjl)).trans hje
 rw[hPk] at g1;cases g1
 have hvv:v=(β h).v:=by
  obtain⟨⟨o',cap,c,t,fr,e1,e2,e3,e4,e5,e6,e7⟩,hcl,_⟩:=hroom
  rw[e1] at hadr
  simp only[zCF,Option.some.injEq,Prod.mk.injEq] at hadr
  obtain⟨rfl,rfl⟩:=hadr
  rw[e2] at hblk0
  cases hblk0
  have hlt':i*(PTy.agg tt).wd+j < cs.length:=(List.getElem?_eq_some_iff.1 g2).1
  rw[←e7,List.getElem?_take,if_pos hlt',List.getElem?_drop,Array.getElem?_toList] at g2
  rw[hcell] at g2
  exact(Option.some.inj g2).symm
 subst hvv
 have hff:∀x∈f,x∈fs.flatten:=fun x hx=>List.mem_flatten.2 ⟨f,List.mem_of_getElem? g3,hx⟩
 have hfϕ:∀x∈f,x∈ϕ r:=fun x hx=>by rw[hϕ,hf1];exact List.mem_cons_of_mem _ (hff x hx)
 have hnd':(b :: fs.flatten).Nodup:=by rw[←hf1,←hϕ];exact hnd
 obtain⟨hnb,hnf⟩:=List.nodup_cons.1 hnd'
 have hfn:f.Nodup:=by
  exact(List.pairwise_flatten.1 hnf).1 f (List.mem_of_getElem? g3)
 have hFl:zBD T1=true:=hOF.1
 have hbx:∀i o t cs,lk S.A i=some (.box o t cs)→SV.oks β cs:=fun i o t cs hi=>(sat.hb _ _ hi).2.2
 obtain⟨fs0,fl0,hargs,hfrom⟩:=zM8 hps2 hall ho2 sat.hp hbx hk.2
 have hA:zAB w ((.mt,.list T1) :: ts) (.list es1 :: qs) (SV.vals β (.sl h :: ys)) fs0 fl0 (f++[]):=.mt ⟨_,rfl,zOy hOF⟩ hargs
 rw[List.append_nil] at hA
 have hms:∀b∈f,(b∈X∨w0.heap.size≤b)∧(b∈F∨w0.heap.size≤b):=fun x hx=>⟨sat.hp.own _ _ hr x (hfϕ x hx),sat.hp.all _ _ hr trivial x (hfϕ x hx)⟩
 refine(hm w _ _ fs0 fl0 f hA hfn ?_ q2 (sat.gl.now sat.fr fun b hb=>(hms b hb).1)).mono fun e w' he=>?_
 ·intro x hx hf
  obtain⟨i',hi',hl',e3,e4,e5⟩:=hfrom.all x hf
  obtain⟨n1,hl2,e6,e7,e8⟩:=zFF hrd i' hi'
  rw[e3] at e6;cases e6
  exact sat.hp.dj r i' _ _ hr e3 (fun e=>n1 (by simp[e])) (fun hq=>e8 r hq (by simp)) e4 x (hfϕ x hx) e5
 obtain⟨rvs,rfl,hFr,hcase⟩:=he
 rcases hcase with ⟨_,fr,mo,hret,hout,hnd3,hge⟩ | ⟨hf,_⟩
 case inr=>rw[hfresh] at hf;cases hf
 simp only at hret hout
 rw[hout0] at hout
 obtain⟨p3,f',mo',hp3,hO',rfl,rfl⟩:∃p3 f' mo',q=.list p3∧zCG w' (β h).v T1 p3 f'∧mo=f'++mo'∧mo'=[]:=by
  cases hout with
  | mt h1 h2=>
   obtain⟨es3,rfl,h3⟩:=h1
   obtain⟨rfl,_⟩:=zL5 h2 hall
   exact⟨_,_,_,rfl,h3,rfl,rfl⟩
 subst hp3
 rw[List.append_nil] at hnd3 hge
 obtain⟨hnfr,hnf',hdis⟩:=List.nodup_append.1 hnd3
 have hfr:Fr w0 X w':=sat.fr.trans hFr (fun x hx=>hx) (fun b hb=>(hms b hb).1)
 have hst:=sat.hp.struck [r]
 have hap:yB (zK [r] S.A) ϕ (ϕ r):=zt sat.hp fun b hb=>⟨r,by simp,_,hr,hb⟩
 have hst':zL w0.heap.size X F (zK [r] S.A) β ϕ w':=hst.world fun i hl hi hd b hb=>hFr.block b (hst.inb hi hd b hb) fun hm=>hap i hl hi hd b hb (hfϕ b hm)
 have hold:∀x∈ϕ r,x < w.heap.size:=sat.hp.inb hr (by simp)
 have hg':∀x∈f',x∈f∨x ∉ fs.flatten:=fun x hx=>(hge x (by simp[hx])).imp id fun h1 h2=>by
  have:=hold x (by rw[hϕ,hf1];exact List.mem_cons_of_mem _ h2);omega
 obtain⟨s1,s2⟩:=zKQ hnf g3 hnf' hg'
 have hOk:zCG w' (β r).v (.agg tt) (es.set i (.agg ((es.getD i PV.d).A.set j (.list p3)))) (b :: (fs.set (i*(PTy.agg tt).wd+j) f').flatten):=by
  have hb':w'.heap[b]?=w.heap[b]?:=hFr.block b (hold b (by rw[hϕ];simp)) fun hm=>hnb (hff b hm)
  refine .inr ⟨b,_,cs,rfl,by rw[List.length_set];exact hroom.frame hb',?_,_,rfl,?_⟩
  ·intro e he
   rcases List.mem_or_eq_of_mem_set he with he | rfl
   ·exact hS e he
   ·obtain⟨qs',hq,hql⟩:=hS _ (zC4 hi)
    exact⟨_,rfl,by rw[List.length_set,hq];exact hql⟩
  ·rw[List.length_set,zMl hS hi hjl]
   refine hL.put hTk g2 (zOz hFl hO') fun m g hm hg v T es hv=>hv.frame fun x hx=>hFr.block x (hold x (by rw[hϕ,hf1];exact List.mem_cons_of_mem _ (List.mem_flatten.2 ⟨g,List.mem_of_getElem? hg,hx⟩))) fun hm'=>zEj hnf hg g3 hm x hx hm'
 have hmem:∀x∈b :: (fs.set (i*(PTy.agg tt).wd+j) f').flatten,x∈ϕ r∨x∈f':=by
  intro x hx
  rcases List.mem_cons.1 hx with rfl | hx
  ·left;rw[hϕ];simp
  ·exact(s2 x hx).imp (fun h=>by rw[hϕ,hf1];exact List.mem_cons_of_mem _ h) id
 have hge2:∀x∈fr++f',(x∈X∨w0.heap.size≤x)∧(x∈F∨w0.heap.size≤x):=by
  intro x hx
  rcases hge x hx with h | h
  ·exact hms x h
  ·exact⟨.inr (Nat.le_trans sat.fr.size h),.inr (Nat.le_trans sat.fr.size h)⟩
 have hbf':b ∉ f':=fun hm=>by
  rcases hge b (by simp[hm]) with h | h
  ·exact hnb (hff b h)
  ·have:=hold b (by rw[hϕ];simp);omega
 have hfrϕ:∀x∈fr,x∈f∨w.heap.size≤x:=fun x hx=>hge x (by simp[hx])
 have hN:((b :: (fs.set (i*(PTy.agg tt).wd+j) f').flatten)++fr).Nodup:=by
  rw[List.cons_append,List.nodup_cons]
  refine⟨fun hm=>?_,List.nodup_append.2 ⟨s1,hnfr,fun x hx y hy e=>?_⟩⟩
  ·rcases List.mem_append.1 hm with hm | hm
   ·rcases s2 b hm with h | h
    ·exact hnb h
    ·exact hbf' h
   ·rcases hfrϕ b hm with h | h
    ·exact hnb (hff b h)
    ·have:=hold b (by rw[hϕ];simp);omega
  ·subst e
   obtain⟨g,hg,hxg⟩:=List.mem_flatten.1 hx
   obtain⟨m,hm,e⟩:=List.mem_iff_getElem.1 hg
   by_cases hmk:m=i*(PTy.agg tt).wd+j
   ·subst hmk
    rw[List.getElem_set_self] at e
    subst e
    exact hdis x hy x hxg rfl
   ·rw[List.getElem_set_ne (by omega)] at e
    have hg2:fs[m]?=some g:=by rw[List.length_set] at hm;rw[List.getElem?_eq_getElem hm,e]
    rcases hfrϕ x hy with h | h
    ·exact zEj hnf hg2 g3 hmk x hxg h
    ·have:=hold x (by rw[hϕ,hf1];exact List.mem_cons_of_mem _ (List.mem_flatten.2 ⟨g,List.mem_of_getElem? hg2,hxg⟩));omega
 have hap2:yB (zK [r] S.A) ϕ ((b :: (fs.set (i*(PTy.agg tt).wd+j) f').flatten)++fr):=by
  intro i' hl hi' hd x hx hm
  have hnew:∀x,x∈fr++f'→x∈ϕ i'→False:=fun x h1 h2=>by
   rcases hge x h1 with h | h
   ·exact hap i' hl hi' hd x h2 (hfϕ x h)
   ·have:=hst.inb hi' hd x h2;omega
  rcases List.mem_append.1 hm with hm | hm
  ·rcases hmem x hm with h | h
   ·exact hap i' hl hi' hd x hx h
   ·exact hnew x (by simp[h]) hx
  ·exact hnew x (by simp[hm]) hx
 obtain⟨b1,b2,b5⟩:=zHO (h:=r) hst' (yN sat.hb [r]) (sat.hb _ _ hr).1 (fun hl' hl2=>yY (by simp) hl2) hOk hN
  (fun x hx=>by
   rcases hmem x hx with h | h
   ·exact⟨sat.hp.own _ _ hr x h,sat.hp.all _ _ hr trivial x h⟩
   ·exact hge2 x (by simp[h])) hap2
 obtain⟨β',ϕ',c1,c2,c3,c4,c5,c6,c7,c8,c9⟩:=zDg ret (res (.list es1 :: qs)) rvs fr [] S.n _ _ _ hret b1 b2 (by simpa using hnfr) (fun b hb=>hge2 b (by simp[hb])) (by simpa using b5)
 exact⟨_,β',ϕ',rfl,fun _=>zD1 c5,c3,c1,c2,zFH c6,zFG c7,c8,hfr⟩
end
end
section
variable [zZ]
section
variable {P:Program} {E:Env} {N:Nat} {w0:World} {X F:List Nat} {S:St} {β:Nat→GV} {ϕ:Nat→List Nat} {a:Act} {w w':World} {o:Oper} {R:RR} {A:Hp} {B:Nat}
theorem zSK{c:Call}{f:Operand}{g':Bool}{fid:Nat}{caps vs:List SV}{ob:Prop}{R0:RR}(hE:zCH P E)(ho:o.op=.call c)(hc:c.callee=.value f)(hf:S.ev f=some (g',.fn fid caps))(hg:g'=true)
  (hvs:evs S true c.args.toList=some (ob,vs)) (hobv:ob) (hcr:zGQ E S true fid caps vs=some R0) (hob:R0.ob) (sat:Sat N w0 X F S β ϕ a w) :
  R0.hy∧∀(next:Act→World→Prop) (Q:Exit→Act→World→Prop),(∀v w' β' ϕ',zLU w0 X F S R0 β ϕ o.dst v w' β' ϕ'→(∀s,zDV E.fn fid (zEJ vs)=some s→zAr s.args=true→Fr w [] w')→next (a.put o.dst v) w')→o.wp P a w next Q:=by
 obtain⟨f1,f2⟩:=zD hf sat
 replace f1:=f1 hg
 obtain⟨f3,f4⟩:=f2 hg
 obtain⟨v1,v2⟩:=yV hvs sat
 replace v1:=v1 rfl hobv
 obtain⟨v3,v4⟩:=v2 rfl hobv
 have hok:SV.oks β (vs++caps):=by
  rw[SV.oks_iff];intro x hx
  rcases List.mem_append.1 hx with h | h
  ·exact SV.oks_iff.1 v4 x h
  ·exact SV.oks_iff.1 f4 x h
 have hlt:SV.lts S.n (vs++caps):=by
  rw[SV.lts_iff];intro x hx
  rcases List.mem_append.1 hx with h | h
  ·exact SV.lts_iff.1 v1 x h
  ·exact SV.lts_iff.1 f1 x h
 unfold zGQ at hcr
 split at hcr
 ·cases hcr
 ·rename_i s hs
  obtain⟨hmeet,fn,hfn,hbody,hname⟩:=hE.fn _ _ _ hs
  have hrun:=zC7 (P:=P) (w:=w) (ob:=ob) ho hc f3 v3 hfn hbody hname
  split at hcr
  ·cases hcr
  ·rename_i o1 ps hps
   have go:R0.hy→Calls P fid (SV.vals β (vs++caps)).toArray w (fun e w'=>∃v β' ϕ',e=.returned v∧zLU w0 X F S R0 β ϕ o.dst v w' β' ϕ'∧(zAr s.args=true→Fr w [] w')) →
     R0.hy∧∀(next:Act→World→Prop) (Q:Exit→Act→World→Prop),(∀v w' β' ϕ',zLU w0 X F S R0 β ϕ o.dst v w' β' ϕ'→(∀s,zDV E.fn fid (zEJ vs)=some s→zAr s.args=true→Fr w [] w')→next (a.put o.dst v) w')→o.wp P a w next Q:=by
    refine fun h0 hcall=>⟨h0,fun next Q hnext=>?_⟩
    unfold Oper.wp
    rw[hrun,Oper.upon_enter]
    refine hcall.mono fun e w' he=>?_
    obtain⟨v,β',ϕ',rfl,hpost,hf⟩:=he
    exact hnext _ w' β' ϕ' hpost fun s' hs' ha=>by rw[hs] at hs';cases hs';exact hf ha
   have own:zAr s.args=false→R0=zDk S true s o1 ps (vs++caps)→R0.hy∧∀(next:Act→World→Prop) (Q:Exit→Act→World→Prop),(∀v w' β' ϕ',zLU w0 X F S R0 β ϕ o.dst v w' β' ϕ'→(∀s,zDV E.fn fid (zEJ vs)=some s→zAr s.args=true→Fr w [] w')→next (a.put o.dst v) w')→o.wp P a w next Q:=by
    intro hna e
    subst e
    exact go trivial ((zN9 hmeet hps hok hlt sat hob).mono fun e w' ⟨v,β',ϕ',h1,h2⟩=>⟨v,β',ϕ',h1,h2,fun h=>by rw[hna] at h;cases h⟩)
   split at hcr
   ·rename_i hall
    cases hcr
    exact go trivial ((zQG hmeet hps hall hok sat hob).mono fun e w' ⟨v,β',ϕ',h1,h2,h3⟩=>⟨v,β',ϕ',h1,h2,fun _=>h3⟩)
   ·rename_i hna
    split at hcr
    ·split at hcr
     ·obtain⟨r1,r2⟩:=zQH (P:=P) (w:=w) (o:=o) hmeet hps hcr hok hlt sat hob
      exact go r1 (r2.mono fun e w' ⟨v,β',ϕ',h1,h2⟩=>⟨v,β',ϕ',h1,h2,fun h=>absurd h hna⟩)
     ·cases hcr;exact own (by simpa using hna) rfl
    ·cases hcr;exact own (by simpa using hna) rfl
end
end
section
variable [zZ]
section
variable {P:Program} {E:Env} {N:Nat} {w0:World} {X F:List Nat} {S:St} {β:Nat→GV} {ϕ:Nat→List Nat} {a:Act} {w w':World} {o:Oper} {R:RR} {A:Hp} {B:Nat}
theorem zNA(x:Addr):x.add 0=x:=by cases x;rfl
theorem zId{h r lo n:Nat}{T:PTy}{es:List PV}(hc:zKc A h=some (r,lo,T,es,n))(hp:zL B X F A β ϕ w) :
  ∃p,lk A r=some (.arr .dp T es p)∧lo+n≤es.length∧∃ad l cap,(β r).v=.slice ad l cap∧(β h).v=.slice (if cap=lo then ad else ad.map fun x=>x.add (lo*T.wd)) n (cap - lo):=by
 unfold zKc at hc
 split at hc
 ·rename_i T' es' p hl
  cases hc
  obtain⟨_,cap,ad,hv,_⟩:=zCk (zLK hp hl (fun k=>by simp))
  refine⟨p,hl,by omega,ad,_,cap,hv,?_⟩
  rw[hv]
  congr 1
  split
  ·rfl
  ·cases ad<;>simp[zNA]
 ·rename_i rs T' es' r' lo' hl
  split at hc
  ·rename_i T2 es2 p2 hr
   cases hc
   obtain⟨_,es3,p3,h1,h2,_,ad,l,cap,h4,h5⟩:=hp.pt _ _ hl
   rcases h1 with h1 | h1
   ·rw[hr] at h1;cases h1
    exact⟨_,hr,h2,ad,l,cap,h4,h5⟩
   ·rw[hr] at h1;cases h1
  ·cases hc
 ·cases hc
theorem zN3{T:PTy}(h:zGI T=true):zBD T=true∧T.leaves=[T]∧T.wd=1∧∀ts,T≠.agg ts:=by
 cases T<;>simp[zGI] at h<;>exact⟨rfl,rfl,rfl,by simp⟩
theorem zI2{dT sT ty elem t b o dLen dCap b2 o2 sLen sCap:Nat}{c c2:Array Value}{fr fr2:Nat × Nat}{t2:Nat}{cs:List Value}(hu:P.underlying dT=some (.slice elem))(hs:(P.info? elem).map (·.size)=some 1)(hn:cs.length=Nat.min sLen dLen)
  (hb2:w.heap[b2]?=some (.cells c2 t2 fr2)) (hcs:(c2.toList.drop o2).take cs.length=cs) (hb:w.heap[b]?=some (.cells c t fr)) (hbnd:o+cs.length≤c.size) (hf:∀j,j < c.size→¬(fr.1≤j∧j < fr.2)) (h1:∀v∈cs,v.oneCell'=true) :
  ∃w',(Builtin.copy_ #[dT,sT] ty #[.slice (some ⟨b,o,none⟩) dLen dCap,.slice (some ⟨b2,o2,none⟩) sLen sCap]).run P w=.ok (goInt cs.length) w'∧w'.heap[b]?=some (.cells (c.toList.take o++cs++c.toList.drop (o+cs.length)).toArray t fr) ∧
   (∀k,k≠b→w'.heap[k]?=w.heap[k]?)∧w'.os=w.os∧w'.tape=w.tape∧w'.output=w.output∧w'.heap.size=w.heap.size:=by
 have hl:=run_loadCells_list (P:=P) w ⟨b2,o2,none⟩ cs (fun j v hj=>by
  rw[zAc,cell_of_row w b2 _ c2 t2 fr2 hb2]
  have hlt:=(List.getElem?_eq_some_iff.1 hj).1
  rw[←hcs,List.getElem?_take,if_pos hlt,List.getElem?_drop,Array.getElem?_toList] at hj
  exact hj)
 obtain⟨w',r1,r2,r3⟩:=yf (P:=P) b t fr cs o 0 c w hb (by omega) hf h1
 refine⟨w',?_,by simpa using r2,r3⟩
 cases hq:P.info? elem with
 | none=>simp[hq] at hs
 | some i=>
  have hi:i.size=1:=by simpa[hq] using hs
  simp[Builtin.copy_,run_underlying hu,Builtin.lenOf,Builtin.firstCells,sizeOf,typeInfo,hq,hi,←hn,hl,r1]
theorem zSJ{c:Call}{vs:List SV}{ob:Prop}(hT:zAQ P E)(ho:o.op=.call c)(hc:c.callee=.builtin .copy)(hvs:evs S true c.args.toList=some (ob,vs))
  (hR:yH E S true .copy c.argTypes.toList ob vs=some R) (sat:Sat N w0 X F S β ϕ a w) (hob:R.ob):Snd P w0 X F S β ϕ o a w R:=by
 obtain⟨e1,e2⟩:=yV hvs sat
 have key:∃t u h s,c.argTypes.toList=[t,u]∧vs=[.sl h,.sl s]∧zGM E S true ob t h s=some R:=by
  unfold yH at hR
  split at hR
  case h_4=>rename_i t u h s hb hts;exact⟨_,_,_,_,hts,rfl,hR⟩
  all_goals first | (exfalso;rename_i hb;simp at hb;done) | (exfalso;rename_i hb _;simp at hb;done) | (exfalso;rename_i hb _ _;simp at hb;done) | (exfalso;rename_i hb _ _ _;simp at hb;done) | cases hR
 obtain⟨t,u,h,s,hat,rfl,hcr⟩:=key
 have hat2:c.argTypes=#[t,u]:=by apply Array.ext';simpa using hat
 unfold zGM at hcr
 split at hcr
 case h_2=>cases hcr
 rename_i r lo T es n ti hct hti
 split at hcr
 case h_2=>cases hcr
 rename_i o' new te hsrc hte
 cases hcr
 obtain⟨_,q1,q2,q3,q4,q5⟩:=hob
 subst q4
 obtain⟨consts,hr0⟩:=ym ho hc hvs q1 sat
 obtain⟨hfB,hfl,hwd,hfa⟩:=zN3 q5
 have hTe:=hT _ _ hte
 have hu:=(hT _ _ hti).und
 rw[q3] at hu
 have hsz:(P.info? ti.el).map (·.size)=some 1:=by
  obtain⟨i,h1,h2,_⟩:=hTe.info
  rw[h1]
  have:=(zID hTe).1
  rw[hwd] at this
  simp[h2,←this]
 obtain⟨p,hlr,hlo,ad,l,cap0,hvr,hvh⟩:=zId hct sat.hp
 have hsrc2:∃o2 p2,lk S.A s=some (.arr o2 te.pty new p2)∧∀k,o2≠.cs k:=by
  simp only[zDH] at hsrc
  split at hsrc
  ·cases hsrc
  ·rename_i o2 T2 es2 p2 hn hl
   simp only[Option.some.injEq,Prod.mk.injEq] at hsrc
   obtain⟨rfl,rfl⟩:=hsrc
   have:T2=te.pty:=q2
   subst this
   exact⟨o2,p2,hl,fun k e=>hn k (by rw[e])⟩
  ·cases hsrc
 obtain⟨o2,p2,hls,hncs⟩:=hsrc2
 have hLs:=zLK sat.hp hls hncs
 obtain⟨hnl,cs',as',hvs',hcs'⟩:=zCk hLs
 have hst:=sat.hp.struck [r]
 have hap:yB (zK [r] S.A) ϕ (ϕ r):=zt sat.hp fun b hb=>⟨r,by simp,_,hlr,hb⟩
 have hr1:execOp a.eval o=Builtin.copy_ #[t,u] o.type #[(β h).v,(β s).v] >>= fun v=>pure (.value v):=by
  rw[hr0]
  simp[builtin,hat2,SV.vals,SV.val]
 have hO:zCG w (β r).v te.pty es (ϕ r):=sat.hp.sat _ _ hlr
 have hk0:inR .i64 ((min new.length n:Nat):Int):=by
  simp only[inR,IntKind.min,IntKind.max,IntKind.signed,IntKind.bits];unfold LIM at hnl;omega
 have hrn:r < S.n:=(sat.hb _ _ hlr).1
 by_cases hk:min new.length n=0
 ·
  have hes:es.take lo++new.take n++es.drop (lo+min new.length n)=es:=by
   have:new.take n=[]:=List.eq_nil_of_length_eq_zero (by rw[List.length_take];omega)
   rw[this,List.append_nil,hk,Nat.add_zero,List.take_append_drop]
  obtain⟨b1,b2,_⟩:=zHO (h:=r) (G:=[]) hst (yN sat.hb [r]) hrn (fun hl' hl2=>yY (by simp) hl2) hO (by rw[List.append_nil];exact sat.hp.nd _ _ hlr) (fun x hx=>⟨sat.hp.own _ _ hlr x hx,sat.hp.all _ _ hlr trivial x hx⟩) (by simpa using hap)
  refine⟨trivial,_,w,β,upd ϕ r (ϕ r),.inl ?_,⟨fun _=>rfl,fun _ _=>rfl,?_,?_,trivial,hk0,Nat.le_refl _,sat.fr⟩,fun h=>by simp[zAJ,zAn,ho,hc] at h,fun h=>by simp[zEF,ho,hc] at h⟩
  ·rw[hr1,hvh,hvs',Sem.run_bind,run_copy_none (P:=P) w t u o.type ti.el _ _ _ _ _ _ hu hsz (by omega)]
   simp only[hk]
   rfl
  ·show zL _ _ _ (yk (zK [r] S.A) r (.arr .dp te.pty (es.take lo++new.take n++es.drop (lo+min new.length n)) .no)) _ _ _
   rw[hes];exact b1
  ·show Bd _ _ (yk (zK [r] S.A) r (.arr .dp te.pty (es.take lo++new.take n++es.drop (lo+min new.length n)) .no))
   rw[hes];exact b2
 ·
  rcases hO with ⟨e0,_⟩ | ⟨b,f1,cs,hϕ,⟨⟨o',cap,c',t',fr,hv,hblk,hcap,hle,hmx,hfz,hcs⟩,hlen1,hlim⟩,hS,hL⟩
  ·subst e0;simp at hlo;omega
  rw[hv] at hvr
  cases hvr
  rw[if_neg (by omega)] at hvh
  simp only[Option.map_some,zAc,hwd,Nat.mul_one] at hvh
  obtain⟨b2,o2',cap2,c2,t2,fr2,cs2,f2,hvs2,hf2,hblk2,hS2,_,hL2,hcs2⟩:=zNi hLs (by omega)
  have hLv:=hL.lv
  have hf1:f1=[]:=zA7 hLv (yq hfB _)
  have hf2':f2=[]:=zA7 hL2 (yq hfB _)
  subst hf1 hf2'
  have hwd':te.pty.wd=1:=hwd
  have fl:∀(l:List PV),(∀e∈l,Shp te.pty e)→(zT l).length=l.length:=fun l hl=>by rw[ya hl,hwd',Nat.mul_one]
  have hsub:∀{l m:List PV},(∀e∈l++m,Shp te.pty e)→(∀e∈l,Shp te.pty e)∧∀e∈m,Shp te.pty e:=fun h=>⟨fun e he=>h e (by simp[he]),fun e he=>h e (by simp[he])⟩
  generalize hkk:min new.length n=k at *
  have hsplit:es=es.take lo++((es.drop lo).take k++(es.drop lo).drop k):=by rw[List.take_append_drop,List.take_append_drop]
  have hl1:(es.take lo).length=lo:=by rw[List.length_take];omega
  have hl2:((es.drop lo).take k).length=k:=by rw[List.length_take,List.length_drop];omega
  have hl3:((es.drop lo).drop k).length=es.length - (lo+k):=by rw[List.length_drop,List.length_drop];omega
  have hS1:(∀e∈es.take lo,Shp te.pty e)∧(∀e∈(es.drop lo).take k,Shp te.pty e)∧∀e∈(es.drop lo).drop k,Shp te.pty e:=
   ⟨fun e he=>hS e (List.mem_of_mem_take he),fun e he=>hS e (List.mem_of_mem_drop (List.mem_of_mem_take he)),fun e he=>hS e (List.mem_of_mem_drop (List.mem_of_mem_drop he))⟩
  obtain⟨v1,v23,g1,g23,rfl,hgg,hA1,hA23⟩:=hLv.split (T1:=zX te.pty lo) (T2:=zX te.pty (k+(es.length - (lo+k)))) (p1:=zT (es.take lo)) (p2:=zT ((es.drop lo).take k++(es.drop lo).drop k))
   (by rw[←yE];congr 1;omega) (by rw[←zx,←hsplit]) (by rw[yU,hwd',fl _ hS1.1,hl1,Nat.mul_one])
  obtain⟨v2,v3,g2,g3,rfl,hgg',hA2,hA3⟩:=hA23.split (T1:=zX te.pty k) (T2:=zX te.pty (es.length - (lo+k))) (p1:=zT ((es.drop lo).take k)) (p2:=zT ((es.drop lo).drop k))
   (by rw[←yE]) (by rw[←zx]) (by rw[yU,hwd',fl _ hS1.2.1,hl2,Nat.mul_one])
  obtain⟨u1,u2,m1,m2,rfl,hmm,hB1,hB2⟩:=hL2.split (T1:=zX te.pty k) (T2:=zX te.pty (new.length - k)) (p1:=zT (new.take k)) (p2:=zT (new.drop k))
   (by rw[←yE];congr 1;omega) (by rw[←zx,List.take_append_drop]) (by rw[yU,hwd',fl _ (fun e he=>hS2 e (List.mem_of_mem_take he)),List.length_take,Nat.mul_one];omega)
  have hg1:g1=[]∧g2=[]∧g3=[]∧m1=[]:=⟨zA7 hA1 (yq hfB _),zA7 hA2 (yq hfB _),zA7 hA3 (yq hfB _),zA7 hB1 (yq hfB _)⟩
  obtain⟨rfl,rfl,rfl,rfl⟩:=hg1
  have hn1:v1.length=lo:=by rw[hA1.lens.2,fl _ hS1.1,hl1]
  have hn2:v2.length=k:=by rw[hA2.lens.2,fl _ hS1.2.1,hl2]
  have hn3:u1.length=k:=by rw[hB1.lens.2,fl _ (fun e he=>hS2 e (List.mem_of_mem_take he)),List.length_take];omega
  have hn4:v3.length=es.length - (lo+k):=by rw[hA3.lens.2,fl _ hS1.2.2,hl3]
  have hcu:(c2.toList.drop o2').take u1.length=u1:=by
   have:=congrArg (List.take u1.length) hcs2
   rw[List.take_take,List.take_append_of_le_length (Nat.le_refl _),List.take_length] at this
   rw[List.length_append] at this
   rwa[Nat.min_eq_left (by omega)] at this
  have hct:∃pre post,c'.toList=pre++(v1++(v2++v3))++post∧pre.length=o':=by
   have h2:=congrArg List.length hcs
   rw[List.length_take,List.length_drop] at h2
   simp only[Array.length_toList,List.length_append] at h2
   refine⟨c'.toList.take o',c'.toList.drop (o'+(v1++(v2++v3)).length),?_,?_⟩
   ·conv=>lhs;rw[←List.take_append_drop o' c'.toList,←List.take_append_drop (v1++(v2++v3)).length (c'.toList.drop o'),hcs,List.drop_drop]
    simp only[List.append_assoc]
   ·rw[List.length_take,Array.length_toList];omega
  obtain⟨pre,post,hct,hpre⟩:=hct
  have hcsz:c'.size=pre.length+(lo+(k+(es.length - (lo+k))))+post.length:=by
   rw[←Array.length_toList,hct];simp only[List.length_append];omega
  have hone:∀v∈u1,v.oneCell'=true:=zMJ hB1
  obtain⟨w',r1,r2,r3,r4,r5,r6,r7⟩:=zI2 (P:=P) (ty:=o.type) (sT:=u) (dLen:=n) (dCap:=cap0 - lo) (sLen:=new.length) (sCap:=cap2) (o:=o'+lo) (cs:=u1) hu hsz (by rw[hn3,←hkk]) hblk2 hcu hblk (by omega) hfz.1 hone
  have hnew:(c'.toList.take (o'+lo)++u1++c'.toList.drop (o'+lo+u1.length))=pre++(v1++(u1++v3))++post:=by
   rw[hct]
   have e1:(pre++(v1++(v2++v3))++post).take (o'+lo)=pre++v1:=by
    rw[show pre++(v1++(v2++v3))++post=(pre++v1)++(v2++(v3++post)) by simp only[List.append_assoc],List.take_left' (by rw[List.length_append];omega)]
   have e2:(pre++(v1++(v2++v3))++post).drop (o'+lo+u1.length)=v3++post:=by
    rw[show pre++(v1++(v2++v3))++post=(pre++v1++v2)++(v3++post) by simp only[List.append_assoc],List.drop_left' (by rw[List.length_append,List.length_append];omega)]
   rw[e1,e2];simp only[List.append_assoc]
  rw[hnew] at r2
  have hb1:b∈X∨w0.heap.size≤b:=sat.hp.own _ _ hlr b (by simp[zH,hϕ])
  have hnL:(new.take n).length=k:=by rw[List.length_take];omega
  have hnt:new.take n=new.take k:=by rw[←hkk,List.take_eq_take_iff];omega
  have hSn:∀e∈es.take lo++new.take n++es.drop (lo+k),Shp te.pty e:=by
   intro e he
   simp only[List.mem_append] at he
   rcases he with (he | he) | he
   ·exact hS e (List.mem_of_mem_take he)
   ·exact hS2 e (List.mem_of_mem_take he)
   ·exact hS e (List.mem_of_mem_drop he)
  have hlenN:(es.take lo++new.take n++es.drop (lo+k)).length=es.length:=by
   simp only[List.length_append,hl1,hnL,List.length_drop];omega
  have hnoB:∀{Ts:List PTy} {ps:List PV} {vs:List Value},Lv w Ts ps vs []→Lv w' Ts ps vs []:=fun h=>h.frame (by simp)
  have hown':zCG w' (β r).v te.pty (es.take lo++new.take n++es.drop (lo+k)) [b]:=by
   refine zL3 hfB (.inr ⟨b,[],v1++(u1++v3),rfl,⟨⟨o',cap0,(pre++(v1++(u1++v3))++post).toArray,t',fr,by rw[hlenN];exact hv,r2,?_,by rw[hlenN];exact hle,hmx,?_,?_⟩,?_,by rw[hlenN];exact hlim⟩,hSn,?_⟩)
   ·simp only[List.size_toArray,List.length_append] at hcap ⊢
    omega
   ·exact hfz.cast (by simp only[List.size_toArray,List.length_append];omega)
   ·rw[List.toList_toArray,List.append_assoc,List.drop_left' hpre,List.take_left' rfl]
   ·simp only[List.length_append,hlenN,hwd'];omega
   ·have h5:=(hnoB hA1).append ((hnoB hB1).append (hnoB hA3))
    simp only[List.append_nil] at h5
    rw[hlenN,hnt,List.append_assoc,zx,zx]
    rw[←yE,←yE,List.drop_drop] at h5
    have e9:lo+(k+(es.length - (lo+k)))=es.length:=by omega
    rw[e9] at h5
    exact h5
  have hst':zL w0.heap.size X F (zK [r] S.A) β ϕ w':=hst.world fun i hl hi hd x hx=>r3 x fun e=>hap i hl hi hd x hx (by rw[e,hϕ];simp)
  obtain⟨b1,b2',_⟩:=zHO (h:=r) (G:=[]) hst' (yN sat.hb [r]) hrn (fun hl' hl2=>yY (by simp) hl2) hown' (by simp) (fun x hx=>by rw[List.mem_singleton] at hx;subst hx;exact⟨hb1,sat.hp.all _ _ hlr trivial x (by rw[hϕ];simp)⟩) (by
   rw[List.append_nil]
   exact hap.mono fun x hx=>by rw[hϕ];exact hx)
  refine⟨trivial,_,w',β,upd ϕ r [b],.inl ?_,⟨fun _=>rfl,fun _ _=>rfl,b1,b2',trivial,hk0,Nat.le_refl _,sat.fr.store r4 r5 r6 r7 hb1 r3⟩,fun h=>by simp[zAJ,zAn,ho,hc] at h,fun h=>by simp[zEF,ho,hc] at h⟩
  rw[hr1,hvh,hvs2,Sem.run_bind,r1,hn3]
  rfl
end
end
section
variable [zZ]
section
variable {P:Program} {E:Env} {N:Nat} {w0:World} {X F:List Nat} {S:St} {β:Nat→GV} {ϕ:Nat→List Nat} {a:Act} {w w':World} {o:Oper} {R:RR} {A:Hp} {B:Nat}
theorem zB1{T:PTy}(hT:leafB T=true):∀n,zX T n=zER n T
 | 0=>rfl
 | n+1=>by
  have h:=zB1 hT n
  have hl:T.leaves=[T]:=by cases T<;>first | rfl | (simp[leafB] at hT)
  rw[zER,←h]
  simp[zX,List.replicate_succ,hl]
theorem zCz(T:PTy):∀n,(zER n T).length=n
 | 0=>rfl
 | n+1=>by rw[zER,List.length_cons,zCz T n]
theorem zCm{T:PTy}(hT:leafB T=true){es:List PV}(hS:∀e∈es,Shp T e):zT es=es:=by
 refine zG8 hS fun ts h=>?_
 subst h;simp[leafB] at hT
theorem zG2{T:PTy}(hT:leafB T=true):zBD T=true:=by cases T<;>first | rfl | (simp[leafB] at hT)
theorem zGD(β:Nat→GV)(o:Own)(q:Nat→Pth)(m:Nat):∀{ts:List PTy} {ps:List PV} {vs:List Value} {f:List Nat} (j n:Nat),(∀t∈ts,leafB t=true)→Lv w ts ps vs f →
  SV.vals β (zB o q j n ts ps).1=vs∧SV.oks β (zB o q j n ts ps).1∧SV.lts m (zB o q j n ts ps).1:=by
 intro ts ps vs f j n ht h
 induction h generalizing j n with
 | nil=>exact⟨rfl,trivial,trivial⟩
 | int h1 _ ih=>
  obtain⟨a1,a2,a3⟩:=ih (j+1) n fun t ht'=>ht t (by simp[ht'])
  exact⟨by simp only[zB,SV.vals,a1];rfl,⟨h1,a2⟩,⟨trivial,a3⟩⟩
 | bool _ ih=>
  obtain⟨a1,a2,a3⟩:=ih (j+1) n fun t ht'=>ht t (by simp[ht'])
  exact⟨by simp only[zB,SV.vals,a1];rfl,⟨trivial,a2⟩,⟨trivial,a3⟩⟩
 | str h1 _ ih=>
  obtain⟨a1,a2,a3⟩:=ih (j+1) n fun t ht'=>ht t (by simp[ht'])
  exact⟨by simp only[zB,SV.vals,a1];rfl,⟨h1,a2⟩,⟨trivial,a3⟩⟩
 | empty _ _=>exact absurd (ht _ List.mem_cons_self) (by simp[leafB])
 | list _ _ _ _ _ _ _ _=>exact absurd (ht _ List.mem_cons_self) (by simp[leafB])
theorem zKR:∀(ts:List PTy) (k:Nat) (A:List PV),A.length=k+ts.length→zHp k ts A=A.drop k
 | [],k,A,h=>by rw[zHp,List.drop_eq_nil_of_le (by simp at h;omega)]
 | t :: ts,k,A,h=>by
  have hk:k < A.length:=by simp at h;omega
  rw[zHp,zKR ts (k+1) A (by simp at h ⊢;omega),List.drop_eq_getElem_cons hk]
  simp[hk]
theorem zIA{T:PTy}(hT:leafB T=true){n:Nat}:∀t∈zER n T,leafB t=true:=by
 induction n with
 | zero=>simp[zER]
 | succ n ih=>intro t ht;rw[zER,List.mem_cons] at ht;rcases ht with rfl | ht;exact hT;exact ih t ht
theorem zFe{t:TypeId}{x:Operand}{ti:TI}{b:Nat}{t':TypeId}{c:Array Value}(hTk:yX P t ti)(ho:o.op=.load t x)(x3:a.eval x=.pointer (some ⟨b,0,none⟩))(hblk:w.heap[b]?=some (.cells c t' (0,0)))(hsz:c.size=ti.sz)(hA:ti.agg=true) :
  (execOp a.eval o).run P w=.ok (.value (.agg c)) w:=by
 have hag:=zBz hTk w
 have hs:=yZ hTk w
 have hlc:=yA (P:=P) b 0 ti.sz c t' (0,0) hblk (by omega)
 rw[List.drop_zero,List.take_of_length_le (by simp;omega)] at hlc
 simp only[execOp,ho,Instr.loadAt,Instr.sureAddr,loadVar,Sem.run_bind,Sem.run_pure,Result.andThen_ok,x3,hag,hs,hA,if_true,hlc]
theorem zKh{T:PTy}{es:List PV}{c:Array Value}{f:List Nat}(hT:leafB T=true)(hS:∀e∈es,Shp T e)(hL:Lv w (zX T es.length) (zT es) c.toList f)(o:Own)(q:Nat→Pth)(m n:Nat) :
  SV.vals β (zB o q 0 n (zER es.length T) (zHp 0 (zER es.length T) es)).1=c.toList∧SV.oks β (zB o q 0 n (zER es.length T) (zHp 0 (zER es.length T) es)).1∧SV.lts m (zB o q 0 n (zER es.length T) (zHp 0 (zER es.length T) es)).1∧c.size=es.length:=by
 rw[zB1 hT,zCm hT hS] at hL
 rw[zKR _ 0 _ (by rw[zCz];omega),List.drop_zero]
 obtain⟨a1,a2,a3⟩:=zGD β o q m 0 n (zIA hT) hL
 have:=hL.lens
 exact⟨a1,a2,a3,by simpa using this.2⟩
theorem zIx{xs:List SV}{k:IntKind}{ns:List Int}(h:zGn xs=some (k,ns)):xs=ns.map (SV.int k):=by
 induction xs generalizing k ns with
 | nil=>simp[zGn] at h
 | cons x xs ih=>
  cases x<;>simp only[zGn,reduceCtorEq] at h
  rename_i k' n
  split at h
  ·rename_i hn
   cases xs with
   | nil=>cases h;rfl
   | cons=>simp[zF9] at hn
  ·split at h
   ·rename_i k'' ms h2
    split at h
    ·rename_i e
     cases h
     rw[ih h2,←e];rfl
    ·cases h
   ·cases h
theorem zM5(hT:zAQ P E)(hR:zCC E S true o=some R)(sat:Sat N w0 X F S β ϕ a w)(hob:R.ob):Snd P w0 X F S β ϕ o a w R:=by
 unfold zCC at hR
 split at hR
 ·
  rename_i t x i ho
  split at hR
  ·rename_i g' h g'' k n ti hx hi hti
   split at hR
   ·rename_i ow T es len el hl hd
    split at hR
    ·rename_i te hte
     cases hR
     obtain⟨q1,q2,q3,q4,q5⟩:=hob rfl
     obtain⟨x1,x2⟩:=zD hx sat
     obtain⟨_,i2⟩:=zD hi sat
     obtain⟨b,hv⟩:=zAC.ptr (sat.hp.sat _ _ hl)
     have hu:=(hT _ _ hti).und
     rw[hd] at hu
     have hsz:=yZ (hT _ _ hte)
     refine zR sat trivial ?_ (x1 q1) ⟨b,0,by rw[hv];rfl⟩
     have x3:=(x2 q1).1
     simp only[SV.val,hv] at x3 ⊢
     simp[execOp,ho,x3,(i2 q2).1,SV.val,Instr.indexAt,Instr.sureAddr,asIntOf,underlying,hu,q3,q4,hsz,zAc]
    ·cases hR
   ·cases hR
  ·rename_i g' q g'' k n ti hx hi hti
   split at hR
   ·rename_i T es len el hg hd
    split at hR
    ·rename_i te hte
     cases hR
     obtain⟨q1,q2,q3,q4,q5,q6⟩:=hob rfl
     obtain⟨x1,x2⟩:=zD hx sat
     obtain⟨_,i2⟩:=zD hi sat
     have hu:=(hT _ _ hti).und
     rw[hd] at hu
     have hsz:=yZ (hT _ _ hte)
     refine zR sat trivial ?_ trivial trivial
     have x3:=(x2 q1).1
     simp only[SV.val] at x3 ⊢
     simp[execOp,ho,x3,(i2 q2).1,SV.val,Instr.indexAt,Instr.sureAddr,asIntOf,underlying,hu,q3,q4,hsz,zAc,q6]
    ·cases hR
   ·cases hR
  ·cases hR
 ·
  rename_i t x ho
  split at hR
  ·rename_i g' q i ti hx hti
   split at hR
   ·rename_i T es hg
    have hdat:=(sat.gl.now (ms:=[]) sat.fr (by simp)).dat q T es hg
    obtain⟨x1,x2⟩:=zD hx sat
    split at hR
    ·rename_i hA
     cases hR
     obtain⟨q1,ql,q2,q3,q4⟩:=hob rfl
     obtain⟨_,c,t',hblk,hfb,hS,hL⟩:=hdat ql
     subst q2
     obtain⟨a1,a2,a3,a4⟩:=zKh (β:=β) q3 hS hL .dp noP S.n S.n
     have x3:=(x2 q1).1
     have hs:ti.sz=es.length:=by rw[TI.sz,q4,zCz]
     have hrun:=zFe (w:=w) (hT _ _ hti) ho x3 hblk (by rw[a4,hs]) hA
     rw[←q4] at a1 a2 a3
     refine zR sat trivial ?_ a3 a2
     simp[hrun,SV.val,a1]
    ·rename_i hA
     cases hR
     obtain⟨q1,ql,q2,q3,q4⟩:=hob rfl
     obtain⟨_,c,t',hblk,hfb,hS,hL⟩:=hdat ql
     have x3:=(x2 q1).1
     simp only[SV.val] at x3
     rw[zB1 q3,zCm q3 hS] at hL
     have hsp:=List.getElem_cons_drop (h:=q2) (as:=es)
     have he:es=es.take i++(es.getD i PV.d :: es.drop (i+1)):=by
      rw[List.getD_eq_getElem?_getD,List.getElem?_eq_getElem q2,Option.getD_some]
      rw[hsp,List.take_append_drop]
     have hr:∀n i,i < n→zER n T=zER i T++(T :: zER (n - i - 1) T):=by
      intro n i
      induction i generalizing n with
      | zero=>intro hn;cases n with | zero=>omega | succ n=>simp[zER]
      | succ i ih=>intro hn;cases n with | zero=>omega | succ n=>rw[zER,ih n (by omega),zER];simp
     obtain⟨v1,v2,f1,f2,hc,hf,h1,h2⟩:=hL.split (hr _ _ q2) he (by rw[zCz];simp;omega)
     obtain⟨v,v3,f3,f4,rfl,rfl,h3,h4⟩:=h2.cons_inv
     have hl1:v1.length=i:=by have:=h1.lens;rw[this.2];simp;omega
     have hcell:=cell_of_row w q i c t' (0,0) hblk
     have hci:c[i]?=some v:=by
      rw[←Array.getElem?_toList,hc,List.getElem?_append_right (by omega),hl1,Nat.sub_self];rfl
     rw[hci] at hcell
     have hag:=zBz (hT _ _ hti)
     obtain⟨a1,a2,a3⟩:=zGD β .dp noP S.n (ts:=[T]) (ps:=[es.getD i PV.d]) 0 S.n (by simpa using q3) h3
     have hhd:∃y,(zB .dp noP 0 S.n [T] [es.getD i PV.d]).1=[y]:=by
      cases T<;>first | exact⟨_,rfl⟩ | (simp[leafB] at q3)
     obtain⟨y,hy⟩:=hhd
     rw[hy] at a1 a2 a3 ⊢
     simp only[SV.vals,List.cons.injEq,and_true] at a1
     refine zR sat (zEw h3) ?_ a3.1 a2.1
     have hA':ti.agg=false:=by simpa using hA
     simp only[execOp,ho,Instr.loadAt,Instr.sureAddr,loadVar,Sem.run_bind,Sem.run_pure,Result.andThen_ok,x3,hag,hA',Bool.false_eq_true,if_false,run_load,hcell,List.headD_cons,a1]
   ·cases hR
  ·rename_i g' h ti hx hti
   split at hR
   ·rename_i ow T es hl
    split at hR
    ·rename_i hA
     cases hR
     obtain⟨q1,q3,q4⟩:=hob rfl
     obtain⟨hfb,hS,b,t',c,hv,hϕ,hblk,hL⟩:=zAC.flat (sat.hp.sat _ _ hl) (by rintro rfl;simp_all [leafB,zBD,zCo,zGI,PTy.leaves])
     obtain⟨x1,x2⟩:=zD hx sat
     obtain⟨a1,a2,a3,a4⟩:=zKh (β:=β) q3 hS hL .dp noP S.n S.n
     have x3:=(x2 q1).1
     simp only[SV.val,hv,Nat.add_zero] at x3
     have hs:ti.sz=es.length:=by rw[TI.sz,q4,zCz]
     have hrun:=zFe (w:=w) (hT _ _ hti) ho x3 hblk (by rw[a4,hs]) hA
     rw[←q4] at a1 a2 a3
     refine zR sat trivial ?_ a3 a2
     simp[hrun,SV.val,a1]
    ·cases hR
   ·cases hR
  ·cases hR
 ·
  rename_i t x y ho
  split at hR
  ·rename_i g' h g'' v ti hx hy hti
   split at hR
   ·rename_i T es hl
    split at hR
    ·rename_i hA
     split at hR
     ·rename_i obr ps hres
      cases hR
      obtain⟨_,q2,q3,q4,q5,q6,q7,hd⟩:=hob
      obtain⟨x1,x2⟩:=zD hx sat
      have x3:=(x2 q2).1
      obtain⟨y1,y2⟩:=zD hy sat
      obtain⟨y3,y4⟩:=y2 q3
      obtain⟨fn,hnv,_⟩:=zAk hres q4 sat.hp (zBU y4)
      have hfn:fn=[]:=zA7 hnv (by
       intro t' ht'
       rw[q6] at ht'
       have:=zIA q5 t' ht'
       cases t'<;>simp[leafB] at this<;>simp)
      subst hfn
      obtain⟨hfb,hS,b,t',c,hv,hϕ,hblk,hL⟩:=zAC.flat (sat.hp.sat _ _ hl) (by rintro rfl;simp_all [leafB,zBD,zCo,zGI,PTy.leaves])
      simp only[SV.val,hv,Nat.add_zero] at x3
      have hs:ti.sz=es.length:=by rw[TI.sz,q6,zCz]
      have hcs:c.size=es.length:=by
       rw[zB1 q5,zCm q5 hS] at hL
       have:=hL.lens;simpa using this.2
      have hcl:v.cells.length=ti.sz:=by
       have h1:=hnv.lens
       simp only[SV.vals_map,List.length_map] at h1
       rw[h1.2,←h1.1];rfl
      have hpl:ps.length=es.length:=by rw[←hs];exact(hnv.lens).1.symm
      obtain⟨w',r1,r2,r3,r4,r5,r6,r7⟩:=zCO (P:=P) (β:=β) (v:=v) (hT _ _ hti) ho x3 y3 sat.hp.pl hcl q7 hblk (by omega) (by simp)
      have hSp:∀e∈ps,Shp T e:=by
       intro e he
       have:=hnv.leaves_of e he
       cases T<;>first | exact this | (simp[leafB] at q5)
      have hnew:yj w' (β h) β (ϕ h) (.abx true T ps):=by
       refine .inl ⟨zG2 q5,hSp,b,t',_,hv,hϕ,r2,?_⟩
       rw[zB1 q5,zCm q5 hSp,hpl,←q6]
       have e2:c.toList.drop (0+ti.sz)=[]:=List.drop_eq_nil_of_le (by simp;omega)
       rw[List.toList_toArray,List.take_zero,e2,List.nil_append,List.append_nil]
       exact hnv.frame (by simp)
      have hb1:b∈X∨w0.heap.size≤b:=sat.hp.own _ _ hl b (by simp[zH,hϕ])
      have h2:=sat.hp.redo (A':=yk (zK [h] S.A) h (.abx true T ps)) (f:=ϕ h) (hl0:=.abx true T ps) (fun j=>zP _ _ _) hl hnew (fun b hb'=>.inl (by simpa[zH] using hb')) (fun k _ hk=>r3 k (by rw[hϕ] at hk;simpa[zH] using hk)) trivial (by simp) (by simp[zM]) (by simp) (fun _=>trivial) (fun o t cs e=>by cases e) (fun o T' es' e=>by cases e;exact⟨_,_,rfl⟩)
      have hid:upd ϕ h (ϕ h)=ϕ:=by funext k;unfold upd;split<;>simp_all
      rw[hid] at h2
      exact⟨trivial,undef,w',β,ϕ,.inr ⟨r1,rfl⟩,⟨fun hh=>absurd hd hh,fun _ _=>rfl,h2,zCB (yN sat.hb _) (fun j=>zP _ _ _) (sat.hb _ _ hl).1 trivial,trivial,trivial,Nat.le_refl _,sat.fr.store r4 r5 r6 r7 hb1 r3⟩,fun h=>by simp[zAJ,zAn,ho] at h,fun h=>by simp[zEF,ho] at h⟩
     ·cases hR
    ·cases hR
   ·cases hR
  ·cases hR
 ·
  rename_i t ho
  split at hR
  ·rename_i ti hti
   split at hR
   ·rename_i len el hd
    split at hR
    ·rename_i te hte
     cases hR
     obtain⟨_,q2,q3⟩:=hob
     obtain⟨z,hz,hzc⟩:=zDv (hT _ _ hti) w
     have hnew:yj (w.alloc (.cells z.cells t (0,0))) ⟨.pointer (some ⟨w.heap.size,0,none⟩),[],[]⟩ (upd β S.n ⟨.pointer (some ⟨w.heap.size,0,none⟩),[],[]⟩) [w.heap.size] (.abx true te.pty (zPb len (zBg te.pty))):=by
      have hz1:∀e∈zPb len (zBg te.pty),Shp te.pty e:=by
       intro e he
       rw[zPb,List.mem_replicate] at he
       obtain⟨_,rfl⟩:=he
       generalize te.pty=T at q2
       cases T<;>first | (intro qs;simp[zBg];done) | (simp[leafB] at q2)
      refine .inl ⟨zG2 q2,hz1,w.heap.size,t,z.cells,rfl,rfl,heap_alloc_new w _,?_⟩
      have hlen:(zPb len (zBg te.pty)).length=len:=by simp[zPb]
      rw[zB1 q2,zCm q2 hz1,hlen,hzc,q3]
      generalize te.pty=T at q2
      simp only[zPb,List.toList_toArray]
      have key:∀(w:World) n,Lv w (zER n T) (List.replicate n (zBg T)) ((zER n T).map zCZ) []:=by
       intro w n
       induction n with
       | zero=>exact .nil
       | succ n ih=>
        rw[zER,List.replicate_succ,List.map_cons]
        cases T with
        | int k=>exact .int (by simp[inR];cases k<;>decide) ih
        | bool=>exact .bool ih
        | str=>exact .str (Nat.zero_le _) ih
        | _=>simp[leafB] at q2
      exact key _ _
     refine⟨trivial,_,_,_,_,.inl ?_,⟨fun _=>rfl,fun h hh=>zs _ _ _ hh,sat.hp.addNew sat.hb sat.fr (fun b hb=>zBe w _ hb) rfl hnew (by simp) trivial rfl (fun _=>⟨rfl,rfl⟩),zAh sat.hb trivial,Nat.lt_succ_self _,?_,Nat.le_succ _,sat.fr.alloc _⟩,fun h=>by simp[zAJ,zAn,ho] at h,fun _=>(Fr.refl _ _).alloc _⟩
     ·simp only[execOp,ho,Instr.alloc,newVar,newRow,Sem.run_bind,Sem.run_pure,run_newObj,Result.andThen_ok,hz,SV.val,zi]
      rfl
     ·exact⟨w.heap.size,0,by simp[zi]⟩
    ·cases hR
   ·cases hR
  ·cases hR
 ·
  rename_i t parts ho
  split at hR
  ·rename_i ti ob vs hti hvs
   split at hR
   ·rename_i len el hd
    split at hR
    ·rename_i te hte
     cases hR
     obtain⟨q1,q2,q3,q4,q5⟩:=hob
     replace q1:=q1 rfl
     obtain⟨v1,v2⟩:=yV hvs sat
     replace v1:=v1 rfl q1
     obtain⟨v3,v4⟩:=v2 rfl q1
     obtain⟨z,hz,hzc⟩:=zDv (hT _ _ hti) w
     have hu:=zCN (hT _ _ hti) w
     rw[hd] at hu
     have hsz:=yZ (hT _ _ hte) w
     rw[q4] at hsz
     have hparts:(parts.map fun(i,x)=>(i,a.eval x)).toList=(zKO parts.toList).zip (SV.vals β vs):=by
      rw[Array.toList_map,←v3]
      exact zFq parts.toList a.eval
     have hio:∀l:List (Nat × Operand),(zKO l).length=l.length∧(zKw l).length=l.length:=by
      intro l
      induction l with
      | nil=>exact⟨rfl,rfl⟩
      | cons p l ih=>obtain⟨i,x⟩:=p;simp[zKO,zKw,ih]
     have hlen:(SV.vals β vs).length=len:=by
      have h1:=congrArg List.length v3
      have h2:=congrArg List.length q2
      rw[List.length_map,(hio _).2] at h1
      rw[(hio _).1,List.length_range] at h2
      rw[←h1,h2]
     have hone:∀v∈SV.vals β vs,v.cells=#[v]:=fun v hv=>zE2 (zJu sat.hp.pl q3 v hv)
     have hzl:z.cells.toList.length=len:=by rw[hzc];simp;exact q5
     have hfl:∀l:List Value,(∀v∈l,v.cells=#[v])→(l.flatMap fun v=>v.cells.toList)=l:=by
      intro l hl
      induction l with
      | nil=>rfl
      | cons v l ih=>rw[List.flatMap_cons,hl v (by simp),ih fun u hu=>hl u (by simp[hu])];rfl
     have hfill:=zHe 1 (SV.vals β vs) 0 z.cells.toList (fun v hv=>by rw[hone v hv];rfl) (by rw[hzl,hlen];omega)
     rw[hlen,←List.range_eq_range',Nat.zero_mul,List.take_zero,List.nil_append,hfl _ hone] at hfill
     refine zR sat trivial ?_ v1 v4
     simp only[execOp,ho,Instr.build,Sem.run_bind,hz,Result.andThen_ok,hu,hsz,hparts,q2]
     simp only[Array.toArray_toList] at hfill
     rw[hfill]
     simp[SV.val]
    ·cases hR
   ·cases hR
  ·cases hR
 ·
  rename_i t x i ho
  split at hR
  ·rename_i g' xs g'' k' n ti hx hi hti
   split at hR
   ·rename_i len el k ns hd hns
    split at hR
    ·rename_i te hte
     cases hR
     obtain⟨q1,q2,q3,q4,q5,q6,q7⟩:=hob rfl
     obtain⟨x1,x2⟩:=zD hx sat
     obtain⟨_,i2⟩:=zD hi sat
     obtain⟨x3,x4⟩:=x2 q1
     have hxs:=zIx hns
     subst hxs
     have hu:=(hT _ _ hti).und
     rw[hd] at hu
     have hsz:=yZ (hT _ _ hte)
     have hag:=zBz (hT _ _ hte)
     have hlt:n.toNat < ns.length:=by omega
     refine zR sat trivial ?_ trivial ?_
     ·have hc:(SV.vals β (ns.map (SV.int k)))[n.toNat]?=some (.int k (ns[n.toNat]?.getD 0)):=by
       rw[SV.vals_map,List.map_map,List.getElem?_map,List.getElem?_eq_getElem hlt]
       rfl
      simp only[SV.val] at x3
      simp[execOp,ho,x3,(i2 q2).1,SV.val,Instr.index,asIntOf,underlying,hu,q3,q4,hsz,q6,part,hag,q7,hc]
     ·have:=SV.oks_iff.1 x4 (.int k (ns.getD n.toNat 0)) (by
       rw[List.mem_map]
       refine⟨_,?_,rfl⟩
       rw[List.getD_eq_getElem?_getD,List.getElem?_eq_getElem hlt]
       exact List.getElem_mem hlt)
      exact this
    ·cases hR
   ·cases hR
  ·cases hR
 ·
  rename_i op t x y t2 ho
  split at hR
  ·rename_i g' h off g'' ti hx hy hti
   cases hR
   obtain⟨q1,q2,e,q3⟩:=hob rfl
   obtain⟨_,x2⟩:=zD hx sat
   obtain⟨_,y2⟩:=zD hy sat
   obtain⟨x3,b,oo,hb⟩:=x2 q1
   have hd:=(hT _ _ hti).und
   rw[q3] at hd
   refine zR sat trivial ?_ trivial trivial
   simp only[SV.val,hb] at x3
   simp[execOp,ho,x3,(y2 q2).1,SV.val,eqGuard,binOp,yO hd]
  ·rename_i g' h off g'' ti hx hy hti
   cases hR
   obtain⟨q1,q2,e,q3⟩:=hob rfl
   obtain⟨_,x2⟩:=zD hx sat
   obtain⟨_,y2⟩:=zD hy sat
   obtain⟨x3,b,oo,hb⟩:=x2 q1
   have hd:=(hT _ _ hti).und
   rw[q3] at hd
   refine zR sat trivial ?_ trivial trivial
   simp only[SV.val,hb] at x3
   simp[execOp,ho,x3,(y2 q2).1,SV.val,eqGuard,binOp,yO hd,bne]
  ·rename_i g' g'' ti hx hy hti
   cases hR
   obtain⟨q1,q2,e,q3⟩:=hob rfl
   obtain⟨_,x2⟩:=zD hx sat
   obtain⟨_,y2⟩:=zD hy sat
   have hd:=(hT _ _ hti).und
   rw[q3] at hd
   refine zR sat trivial ?_ trivial trivial
   simp[execOp,ho,(x2 q1).1,(y2 q2).1,SV.val,eqGuard,binOp,yO hd]
  ·rename_i g' g'' ti hx hy hti
   cases hR
   obtain⟨q1,q2,e,q3⟩:=hob rfl
   obtain⟨_,x2⟩:=zD hx sat
   obtain⟨_,y2⟩:=zD hy sat
   have hd:=(hT _ _ hti).und
   rw[q3] at hd
   refine zR sat trivial ?_ trivial trivial
   simp[execOp,ho,(x2 q1).1,(y2 q2).1,SV.val,eqGuard,binOp,yO hd,bne]
  ·cases hR
 ·cases hR
theorem zOI(hR:zCC E S false o=some R)(hob:R.ob):R.A=S.A∧R.n=S.n:=by
 unfold zCC at hR
 (repeat' split at hR)<;>first | (cases hR;done) | (cases hR;exact⟨rfl,rfl⟩) | (cases hR;exact absurd hob.1 (by simp))
end
end
section
variable [zZ]
section
variable {P:Program} {E:Env} {N:Nat} {w0:World} {X F:List Nat} {S:St} {β:Nat→GV} {ϕ:Nat→List Nat} {a:Act} {w w':World} {o:Oper} {R:RR}
def zFo(E:Env)(S:St)(o:Op):Prop:=
 match o with
 | .call c=>(match c.callee with
  | .value f=>(match S.ev f,evs S true c.args.toList with
   | some (_,.fn f _),some (_,vs)=>(match zDV E.fn f (zEJ vs) with | some s=>zAr s.args=true | none=>False)
   | _,_=>False)
  | _=>False)
 | _=>False
def Wps(P:Program)(E:Env)(w0:World)(X F:List Nat)(S:St)(β:Nat→GV)(ϕ:Nat→List Nat)(o:Oper)(a:Act)(w:World)(R:RR):Prop:=
 R.hy∧∀(next:Act→World→Prop) (Q:Exit→Act→World→Prop),(∀v w' β' ϕ',zLU w0 X F S R β ϕ o.dst v w' β' ϕ'→(zEF o.op∨zFo E S o.op→Fr w [] w')→next (a.put o.dst v) w')→o.wp P a w next Q
def zGP(o:Op):Bool:=match o with | .call c=>(match c.callee with | .value _=>true | _=>false) | _=>false
theorem zL9(hE:zCH P E)(hc:zGP o.op=false)(hR:za E S true o=some R)(sat:Sat N w0 X F S β ϕ a w)(hob:R.ob):Snd P w0 X F S β ϕ o a w R:=by
 have hT:=hE.ty
 cases ho:o.op with
 | move x=>exact zSH ho hR sat hob
 | assign x=>exact zNS hT ho hR sat hob
 | pick c x y=>exact zSG ho hR sat hob
 | box t x=>exact s_box hT ho hR sat hob
 | alloc t=>exact zPY hT ho hR sat hob
 | load t x=>exact zSI hT ho hR sat hob
 | store t x y=>exact zPU hT ho hR sat hob
 | fieldAddr t x f=>exact zI1 hT ho hR sat hob
 | indexAddr t x i=>exact zI0 hT ho hR sat hob
 | index t x i=>exact zPV hT ho hR sat hob
 | binOp op t x y t2=>exact zPX hT ho hR sat hob
 | unOp op t x=>exact zSF ho hR sat hob
 | nilCheck x=>exact zKq ho hR sat hob
 | convert t1 t2 x=>exact zLr hT ho hR sat hob
 | build t ps=>exact zPW hT ho hR sat hob
 | buildSlice t n ps=>exact zH0 hT ho hR sat hob
 | makeSlice t l c=>exact zIz hT ho hR sat hob
 | slice t x lo hi mx=>exact zLo hT ho hR sat hob
 | makeFunc f xs ys=>exact zKr ho hR sat hob
 | extract x i=>exact zLq ho hR sat hob
 | call c=>
  rw[ho] at hc
  unfold za at hR
  rw[ho] at hR
  simp only at hR
  split at hR
  ·rename_i b hc
   split at hR
   ·rename_i ob vs hvs
    cases b with
    | len=>exact s_len hT ho hc hvs hR sat hob
    | append=>exact zNT hT ho hc hvs hR sat hob
    | min=>exact zJ0 (.inl rfl) ho hc hvs hR sat hob
    | max=>exact zJ0 (.inr rfl) ho hc hvs hR sat hob
    | copy=>exact zSJ hT ho hc hvs hR sat hob
    | _=>simp[yH] at hR
   ·cases hR
  ·rename_i f hcc
   simp[zGP,hcc] at hc
  ·cases hR
 | _=>unfold za at hR;rw[ho] at hR;simp at hR
theorem zL8(hE:zCH P E)(hR:za E S true o=some R)(sat:Sat N w0 X F S β ϕ a w)(hob:R.ob):Wps P E w0 X F S β ϕ o a w R:=by
 cases hc:zGP o.op with
 | false=>
  obtain⟨h1,v,w',β',ϕ',h2,h3,_,h4⟩:=zL9 hE hc hR sat hob
  refine⟨h1,fun next Q hn=>h2.wp (hn _ _ _ _ h3 fun h=>?_)⟩
  rcases h with h | h
  ·exact h4 h
  ·exfalso
   unfold zFo at h
   unfold zGP at hc
   split at h
   ·rename_i c ho
    rw[ho] at hc
    simp only at hc
    split at h
    ·rename_i f hcc;rw[hcc] at hc;cases hc
    ·exact h
   ·exact h
 | true=>
  unfold zGP at hc
  split at hc
  ·rename_i c ho
   split at hc
   ·rename_i f hcc
    unfold za at hR
    rw[ho] at hR
    simp only at hR
    rw[hcc] at hR
    simp only at hR
    split at hR
    ·rename_i g' fid caps ob vs hf hvs
     split at hR
     ·rename_i R0 hcr
      cases hR
      obtain⟨q1,q2⟩:=hob
      obtain⟨h1,h2⟩:=zSK hE ho hcc hf (q1 rfl).1 hvs (q1 rfl).2 hcr q2 sat
      refine⟨h1,fun next Q hn=>h2 next Q fun v w' β' ϕ' hp hfr=>hn v w' β' ϕ' ⟨hp.v,hp.bt,hp.hp,hp.hb,hp.lt,hp.ok,hp.n,hp.fr⟩ fun h=>?_⟩
      rcases h with h | h
      ·simp[ho,zEF,hcc] at h
      ·simp only[ho,zFo,hcc,hf,hvs] at h
       split at h
       ·rename_i s hs;exact hfr s hs h
       ·exact h.elim
     ·cases hR
    ·cases hR
   ·cases hc
  ·cases hc
theorem zJU(o:Own)(q:Nat→Pth):∀(j n:Nat) (Ts:List PTy) (ps:List PV),(zB o q j n Ts ps).2.1=[]→(zB o q j n Ts ps).2.2=n:=by
 intro j n Ts
 induction Ts generalizing n j with
 | nil=>intro ps _;simp[zB]
 | cons t ts ih=>
  intro ps h
  cases ps with
  | nil=>cases t<;>simp[zB]
  | cons p ps=>
   cases t<;>simp only[zB,List.append_eq_nil_iff,reduceCtorEq,and_false] at h ⊢<;>exact ih _ _ _ h
theorem zGA(o:Own)(q:Nat→Pth)(j n:Nat)(T:PTy)(p:PV)(h:(z6 o q j n T p).2.1=[]):(z6 o q j n T p).2.2=n:=by
 cases T<;>exact zJU o q j n _ _ h
theorem zIU(o:Own):∀(Ts:List PTy) (n:Nat) (ps:List PV),(zj o n Ts ps).2.1=[]→(zj o n Ts ps).2.2=n:=by
 intro Ts
 induction Ts with
 | nil=>intro n ps _;simp[zj]
 | cons t ts ih=>
  intro n ps h
  cases ps with
  | nil=>simp[zj]
  | cons p ps=>
   simp only[zj,List.append_eq_nil_iff] at h ⊢
   have hc:(zAG o n t p).2.1=[]→(zAG o n t p).2.2=n:=by
    cases t<;>first | exact zGA _ _ _ _ _ _ | (simp[zAG])
   rw[ih _ _ h.1,hc h.2]
theorem zNw{α:Type}{l:List α}(h:zF9 l=false→false=true):l=[]:=by
 cases l with
 | nil=>rfl
 | cons a l=>exact absurd (h rfl) (by simp)
theorem zNb(hR:za E S false o=some R)(hob:R.ob):R.A=S.A∧R.n=S.n:=by
 cases ho:o.op with
 | call c=>
  unfold za at hR
  rw[ho] at hR
  simp only at hR
  split at hR
  ·split at hR
   ·rename_i b _ _ _ _
    unfold yH at hR
    split at hR
    all_goals (try (simp only[reduceCtorEq] at hR))
    ·(repeat' split at hR)<;>first | (cases hR;done) | (cases hR;exact⟨rfl,rfl⟩)
    ·(repeat' split at hR)<;>first | (cases hR;done) | (cases hR;exact⟨rfl,rfl⟩)
    ·split at hR
     ·unfold zIk at hR
      (repeat' split at hR)<;>first | (cases hR;done) | (cases hR;exact absurd hob.1 (by simp))
     ·cases hR
    ·unfold zGM at hR
     (repeat' split at hR)<;>first | (cases hR;done) | (cases hR;exact absurd hob.1 (by simp))
    ·cases hR;exact⟨rfl,rfl⟩
    ·cases hR;exact⟨rfl,rfl⟩
   ·cases hR
  ·split at hR
   ·split at hR
    ·rename_i R0 hcr
     cases hR
     obtain⟨_,q2⟩:=hob
     unfold zGQ at hcr
     split at hcr
     ·cases hcr
     ·split at hcr
      ·cases hcr
      ·split at hcr
       ·cases hcr
        obtain⟨_,k1,_⟩:=q2
        have e1:=zNw k1
        exact⟨by simp only[zGR,e1,List.nil_append],zIU _ _ _ _ e1⟩
       ·split at hcr
        ·split at hcr
         ·simp only[zIf] at hcr
          (repeat' split at hcr)<;>first | (cases hcr;done) | (cases hcr;exact absurd q2.1 (by simp))
         ·cases hcr
          exact absurd q2.1 (by simp)
        ·cases hcr
         exact absurd q2.1 (by simp)
    ·cases hR
   ·cases hR
  ·cases hR
 | load t x=>
  unfold za at hR
  rw[ho] at hR
  simp only at hR
  split at hR
  ·split at hR
   ·split at hR
    ·split at hR
     ·cases hR;exact⟨rfl,rfl⟩
     ·split at hR
      ·cases hR;exact⟨rfl,rfl⟩
      ·cases hR
    ·cases hR
   ·cases hR
  ·split at hR
   ·split at hR
    ·cases hR
     exact absurd hob.1 (by simp)
    ·cases hR
   ·split at hR
    ·cases hR
     obtain⟨_,q⟩:=hob
     have e:(z6 _ _ _ S.n _ _).2.1=[]:=Classical.byContradiction fun h=>absurd (q h) (by simp)
     exact⟨by simp[e],zGA _ _ _ _ _ _ e⟩
    ·cases hR
   ·split at hR
    ·cases hR
     exact⟨rfl,rfl⟩
    ·cases hR
   ·cases hR
  ·cases hR
 | convert a b x=>
  unfold za at hR
  rw[ho] at hR
  simp only at hR
  split at hR
  ·unfold zHh at hR
   (repeat' split at hR)<;>first | (cases hR;done) | (cases hR;exact⟨rfl,rfl⟩) | (cases hR;exact absurd hob.1 (by simp)) | (cases hR;cases hob;done)
  ·cases hR
 | slice t x lo hi mx=>
  unfold za at hR
  rw[ho] at hR
  simp only at hR
  split at hR
  ·unfold zDu at hR
   (repeat' split at hR)<;>first | (cases hR;done) | (cases hR;exact⟨rfl,rfl⟩) | (cases hR;exact absurd hob.1 (by simp)) | (cases hR;cases hob;done)
  ·cases hR
 | makeFunc fn xs ys=>
  unfold za at hR
  rw[ho] at hR
  cases fn<;>simp only at hR<;>(repeat' split at hR)<;>first | (cases hR;done) | (cases hR;exact⟨rfl,rfl⟩)
 | _=>
  unfold za at hR
  rw[ho] at hR
  simp only at hR
  (repeat' split at hR)<;>first | (cases hR;done) | (cases hR;exact⟨rfl,rfl⟩) | (cases hR;exact absurd hob.1 (by simp)) | (cases hR;cases hob;done)
theorem zD3{g:Bool}(h:zD4 E S g o=some R):za E S g o=some R∨zCC E S g o=some R:=by
 unfold zD4 at h
 split at h
 ·rename_i R' h';cases h;exact .inl h'
 ·exact .inr h
theorem zM6{g:Bool}(h:zCC E S g o=some R):zGP o.op=false:=by
 unfold zCC at h
 unfold zGP
 split at h<;>first | (rename_i ho;rw[ho];done) | (rename_i ho;rw[ho]) | (cases h;done) | skip
theorem zO2(hE:zCH P E)(hc:zGP o.op=false)(hR:zD4 E S true o=some R)(sat:Sat N w0 X F S β ϕ a w)(hob:R.ob):Snd P w0 X F S β ϕ o a w R:=by
 rcases zD3 hR with h | h
 ·exact zL9 hE hc h sat hob
 ·exact zM5 hE.ty h sat hob
theorem zD2(hE:zCH P E)(hR:zD4 E S true o=some R)(sat:Sat N w0 X F S β ϕ a w)(hob:R.ob):Wps P E w0 X F S β ϕ o a w R:=by
 rcases zD3 hR with h | h
 ·exact zL8 hE h sat hob
 ·have hc:=zM6 h
  obtain⟨h1,v,w',β',ϕ',h2,h3,_,h4⟩:=zM5 hE.ty h sat hob
  refine⟨h1,fun next Q hn=>h2.wp (hn _ _ _ _ h3 fun h=>?_)⟩
  rcases h with h | h
  ·exact h4 h
  ·exfalso
   unfold zFo at h
   unfold zGP at hc
   split at h
   ·rename_i c ho
    rw[ho] at hc
    simp only at hc
    split at h
    ·rename_i f hcc;rw[hcc] at hc;cases hc
    ·exact h
   ·exact h
theorem zFu(hR:zD4 E S false o=some R)(hob:R.ob):R.A=S.A∧R.n=S.n:=by
 rcases zD3 hR with h | h
 ·exact zNb h hob
 ·exact zOI h hob
end
end
section
variable [zZ]
inductive KI where
 | code (c:Code)
 | run (all l:List Oper)
 | blk (id:Nat)
 | post (p:St→Prop)
def csz:Code→Nat
 | .seq a b=>csz a+csz b+2
 | .cond _ a b=>csz a+csz b+1
 | .block _ b=>csz b+3
 | .loop b=>csz b+1
 | .scope b=>csz b+1
 | .rangeFunc _ _ a b=>csz a+csz b+1
 | .region _ ops _=>ops.toList.length+2
 | _=>1
def ksz:List KI→Nat
 | []=>0
 | .code c :: k=>csz c+ksz k+1
 | .run _ l :: k=>l.length+ksz k+1
 | _ :: k=>ksz k+1
def zOr(id:Nat):List KI→Option (List KI)
 | []=>none
 | .blk i :: k=>if i=id then some k else zOr id k
 | _ :: k=>zOr id k
theorem zEV{id:Nat}:∀{k k':List KI},zOr id k=some k'→ksz k'≤ksz k
 | [],_,h=>by cases h
 | .blk i :: k,k',h=>by
  simp only[zOr] at h
  split at h
  ·cases h;simp[ksz]
  ·have:=zEV h;simp only[ksz];omega
 | .code c :: k,k',h=>by have:=zEV (k:=k) h;simp only[ksz];omega
 | .run _ _ :: k,k',h=>by have:=zEV (k:=k) h;simp only[ksz];omega
 | .post _ :: k,k',h=>by have:=zEV (k:=k) h;simp only[ksz];omega
def zBt(N:Nat)(keep:List Nat)(g:Bool):Option Nat→Prop
 | none=>True
 | some d=>d < N∧(keep.contains d=true→g=true)
def zDR(keep:List Nat)(S:St)(g:Bool)(dst:Option Nat)(R:RR):St:=
 match dst with
 | none=>{ Lp:=S.Lp,Lt:=S.Lt,A:=R.A,n:=R.n }
 | some d=>if keep.contains d then { Lp:=yk S.Lp d R.sv,Lt:=S.Lt,A:=R.A,n:=R.n } else { Lp:=S.Lp,Lt:=(d,g,R.sv) :: S.Lt,A:=R.A,n:=R.n }
structure Cx where
 P:Program
 E:Env
 N:Nat
 w0:World
 X:List Nat
 F:List Nat
 keep:List Nat
 n0:Nat
 β0:Nat→GV
 Q:Exit→Act→World→Prop
 fin:St→Prop
def Kp(keep:List Nat)(S:St):Prop:=(∀t v,lk S.Lp t=some v→keep.contains t=true)∧(∀t x,lk S.Lt t=some x→keep.contains t=false)
def At(C:Cx)(S:St)(a:Act)(w:World):Prop:=
 Kp C.keep S∧C.n0≤S.n∧∃β ϕ,Sat C.N C.w0 C.X C.F S β ϕ a w∧∀h,h < C.n0→β h=C.β0 h
structure Cx.Ok (C:Cx):Prop where
 env:zCH C.P C.E
 mix:C.P.follows .mixedOrders=true
 fin:∀S a w,At C S a w→C.fin S→C.Q .normal a w∧C.Q .ret a w
 pan:∀c a d v w,C.Q (.panic c) (a.put d v) w→C.Q (.panic c) a w
def xt(C:Cx):List KI→Exit→Act→World→Prop
 | []=>C.Q
 | .code c :: k=>Exit.then (c.wp C.P (xt C k)) (xt C k)
 | .run all l :: k=>Exit.then (wpList C.P all.toArray (xt C k) l) (xt C k)
 | .blk id :: k=>Exit.inBlock id (xt C k)
 | .post p :: k=>Exit.then (fun a w=>∃S,At C S a w∧p S) (xt C k)
def WP(C:Cx)(k:List KI)(S:St):Prop:=∀a w,At C S a w→xt C k .normal a w
theorem zHr{C:Cx}{a:Act}{w:World}:∀{k:List KI},C.Q .ret a w→xt C k .ret a w
 | [],h=>h
 | .code c :: k,h=>zHr (k:=k) h
 | .run _ _ :: k,h=>zHr (k:=k) h
 | .blk _ :: k,h=>zHr (k:=k) h
 | .post _ :: k,h=>zHr (k:=k) h
theorem zFU{C:Cx}{id:Nat}{a:Act}{w:World}:∀{k k':List KI},zOr id k=some k'→xt C k' .normal a w→xt C k (.exit id) a w
 | [],k',h,_=>by cases h
 | .code c :: k,k',h,hx=>zFU (k:=k) h hx
 | .run _ _ :: k,k',h,hx=>zFU (k:=k) h hx
 | .post _ :: k,k',h,hx=>zFU (k:=k) h hx
 | .blk i :: k,k',h,hx=>by
  simp only[zOr] at h
  simp only[xt,Exit.inBlock]
  split at h
  ·rename_i e;cases h;subst e;rw[if_pos rfl];exact hx
  ·rename_i e;rw[if_neg (Ne.symm e)];exact zFU h hx
section
variable {C:Cx} {S:St} {a:Act} {w:World} {o:Oper} {R:RR} {g:Bool} {all l:List Oper} {k:List KI}
theorem zg{β:Nat→GV}{ϕ:Nat→List Nat}{N:Nat}{w0:World}{X F:List Nat}(h:zDi S all o.guard=some g)(sat:Sat N w0 X F S β ϕ a w):Region.wanted o (yielded all.toArray a.tmps)=g:=by
 unfold Region.wanted
 unfold zDi at h
 split at h
 ·rename_i hg;rw[hg];cases h;rfl
 ·rename_i j wt hg
  rw[hg]
  simp only
  split at h
  ·rename_i o' ho'
   split at h
   ·rename_i d hd
    split at h
    ·rename_i g' x hs
     cases h
     obtain⟨_,s2,s3⟩:=zGp hs sat
     have hy:((all.toArray[j]?).bind (·.dst)).bind (a.tmps[·]?)=a.tmps[d]?:=by simp[ho',hd]
     unfold yielded
     rw[hy]
     cases g' with
     | true=>rw[(s2 rfl).1];cases wt<;>cases x<;>simp[SV.val]
     | false=>rw[s3 rfl];simp[undef]
    ·cases h
   ·cases h
  ·cases h
theorem yL{β:Nat→GV}{ϕ:Nat→List Nat}{β':Nat→GV}{ϕ':Nat→List Nat}{v:Value}{w':World}(kp:Kp C.keep S)(hn:C.n0≤S.n)(sat:Sat C.N C.w0 C.X C.F S β ϕ a w)(h0:∀h,h < C.n0→β h=C.β0 h)
  (hd:zBt C.N C.keep true o.dst) (hp:zLU C.w0 C.X C.F S R β ϕ o.dst v w' β' ϕ'):At C (zDR C.keep S true o.dst R) (a.put o.dst v) w':=by
 have hval:∀x,SV.lt S.n x→SV.val β' x=SV.val β x:=fun x hx=>SV.val_congr hp.bt x hx
 have h0':∀h,h < C.n0→β' h=C.β0 h:=fun h hh=>
  (hp.bt h (Nat.lt_of_lt_of_le hh hn)).trans (h0 h hh)
 have oldp:∀t v,lk S.Lp t=some v→a.tmps[t]?=some (SV.val β' v)∧SV.lt R.n v∧SV.ok β' v:=by
  intro t v ht
  obtain⟨q1,q2,q3⟩:=sat.lp t v ht
  exact⟨by rw[hval v q2];exact q1,SV.lt_mono hp.n v q2,SV.ok_congr hp.bt v q2 q3⟩
 have oldt:∀t g v,lk S.Lt t=some (g,v)→(g=true→SV.lt R.n v)∧(g=true→a.tmps[t]?=some (SV.val β' v)∧SV.ok β' v)∧(g=false→a.tmps[t]?=some undef):=by
  intro t g v ht
  obtain⟨q1,q2,q3⟩:=sat.lt t g v ht
  exact⟨fun hg=>SV.lt_mono hp.n v (q1 hg),fun hg=>⟨by rw[hval v (q1 hg)];exact(q2 hg).1,SV.ok_congr hp.bt v (q1 hg) (q2 hg).2⟩,q3⟩
 cases hdst:o.dst with
 | none=>
  exact⟨kp,Nat.le_trans hn hp.n,β',ϕ',⟨sat.df,sat.sz,oldp,oldt,hp.hp,hp.hb,hp.fr,sat.gl⟩,h0'⟩
 | some d=>
  rw[hdst] at hd
  obtain⟨hdN,_⟩:=hd
  have hv:=hp.v (by rw[hdst];simp)
  have hget:(a.put (some d) v).tmps[d]?=some (SV.val β' R.sv):=by
   simp only[Act.put];rw[Array.getElem?_setIfInBounds_self_of_lt (by rw[sat.sz];exact hdN),hv]
  have hoth:∀t,d≠t→(a.put (some d) v).tmps[t]?=a.tmps[t]?:=fun t ht=>by
   simp only[Act.put];exact Array.getElem?_setIfInBounds_ne ht
  have hsz:(a.put (some d) v).tmps.size=C.N:=by simp only[Act.put,Array.size_setIfInBounds];exact sat.sz
  by_cases hk:C.keep.contains d=true
  ·simp only[zDR,hk,if_true]
   refine⟨⟨?_,?_⟩,Nat.le_trans hn hp.n,β',ϕ',⟨sat.df,hsz,?_,?_,hp.hp,hp.hb,hp.fr,sat.gl⟩,h0'⟩
   ·intro t u ht
    simp only[zFy] at ht
    split at ht
    ·rename_i e;subst e;exact hk
    ·exact kp.1 t u ht
   ·exact kp.2
   ·intro t u ht
    simp only[zFy] at ht
    split at ht
    ·rename_i e;subst e;cases ht;exact⟨hget,hp.lt,hp.ok⟩
    ·rename_i e;rw[hoth t e];exact oldp t u ht
   ·intro t g u ht
    have:d≠t:=fun e=>by subst e;have:=kp.2 _ _ ht;rw[hk] at this;cases this
    rw[hoth t this];exact oldt t g u ht
  ·simp only[zDR,hk,Bool.false_eq_true,if_false]
   refine⟨⟨kp.1,?_⟩,Nat.le_trans hn hp.n,β',ϕ',⟨sat.df,hsz,?_,?_,hp.hp,hp.hb,hp.fr,sat.gl⟩,h0'⟩
   ·intro t u ht
    simp only[lk] at ht
    split at ht
    ·rename_i e;subst e;simpa using hk
    ·exact kp.2 t u ht
   ·intro t u ht
    have:d≠t:=fun e=>by subst e;exact hk (kp.1 _ _ ht)
    rw[hoth t this];exact oldp t u ht
   ·intro t g u ht
    simp only[lk] at ht
    split at ht
    ·rename_i e;subst e;cases ht
     exact⟨fun _=>hp.lt,fun _=>⟨hget,hp.ok⟩,fun h=>by cases h⟩
    ·rename_i e;rw[hoth t e];exact oldt t g u ht
theorem yI{β:Nat→GV}{ϕ:Nat→List Nat}(kp:Kp C.keep S)(hn:C.n0≤S.n)(sat:Sat C.N C.w0 C.X C.F S β ϕ a w)(h0:∀h,h < C.n0→β h=C.β0 h)
  (hd:zBt C.N C.keep false o.dst) (hA:R.A=S.A) (hRn:R.n=S.n):At C (zDR C.keep S false o.dst R) (a.put o.dst undef) w:=by
 cases hdst:o.dst with
 | none=>
  simp only[zDR,hA,hRn]
  exact⟨kp,hn,β,ϕ,⟨sat.df,sat.sz,sat.lp,sat.lt,sat.hp,sat.hb,sat.fr,sat.gl⟩,h0⟩
 | some d=>
  rw[hdst] at hd
  obtain⟨hdN,hk⟩:=hd
  have hk:C.keep.contains d=false:=by
   cases h:C.keep.contains d with
   | false=>rfl
   | true=>exact absurd (hk h) (by simp)
  have hget:(a.put (some d) undef).tmps[d]?=some undef:=by
   simp only[Act.put];rw[Array.getElem?_setIfInBounds_self_of_lt (by rw[sat.sz];exact hdN)]
  have hoth:∀t,d≠t→(a.put (some d) undef).tmps[t]?=a.tmps[t]?:=fun t ht=>by
   simp only[Act.put];exact Array.getElem?_setIfInBounds_ne ht
  have hsz:(a.put (some d) undef).tmps.size=C.N:=by simp only[Act.put,Array.size_setIfInBounds];exact sat.sz
  simp only[zDR,hk,Bool.false_eq_true,if_false,hA,hRn]
  refine⟨⟨kp.1,?_⟩,hn,β,ϕ,⟨sat.df,hsz,?_,?_,sat.hp,sat.hb,sat.fr,sat.gl⟩,h0⟩
  ·intro t u ht
   simp only[lk] at ht
   split at ht
   ·rename_i e;subst e;exact hk
   ·exact kp.2 t u ht
  ·intro t u ht
   have:d≠t:=fun e=>by subst e;have:=kp.1 _ _ ht;rw[hk] at this;cases this
   rw[hoth t this];exact sat.lp t u ht
  ·intro t g u ht
   simp only[lk] at ht
   split at ht
   ·rename_i e;subst e;cases ht
    exact⟨fun h=>(by cases h),fun h=>(by cases h),fun _=>hget⟩
   ·rename_i e;rw[hoth t e];exact sat.lt t g u ht
theorem kp_lt(kp:Kp C.keep S):Kp C.keep { S with Lt:=[] }:=⟨kp.1,fun t x h=>(by cases h)⟩
theorem zM4(h:At C S a w):At C { S with Lt:=[] } a w:=by
 obtain⟨kp,hn,β,ϕ,sat,h0⟩:=h
 exact⟨kp_lt kp,hn,β,ϕ,⟨sat.df,sat.sz,sat.lp,fun t g v h=>(by cases h),sat.hp,sat.hb,sat.fr,sat.gl⟩,h0⟩
end
end
section
variable [zZ]
section
variable {P:Program} {ops:Array Oper} {Q:Exit→Act→World→Prop} {md:Region.Mode}
def wpH(P:Program)(md:Region.Mode)(ops:Array Oper)(Q:Exit→Act→World→Prop)(bs:List Nat)(es:List (World→Prop)):Nat→Array Bool→Act→World→Prop
 | 0,listed,a,w=>Region.ready md ops listed=[]∧Q .normal a w
 | fuel+1,listed,a,w=>
  (Region.ready md ops listed=[]→Q .normal a w) ∧
  ∀i∈Region.ready md ops listed,wpOp P ops Q i (fun a' w'=>((i ∉ bs→Fr w [] w')∧(i∈bs→∀p∈es,p w'))∧wpH P md ops Q bs es fuel (listed.setIfInBounds i true) a' w') a w
theorem zET{bs:List Nat}{es:List (World→Prop)}:∀(fuel:Nat) (listed:Array Bool) (a:Act) (w:World),wpH P md ops Q bs es fuel listed a w→wpAny P md ops Q fuel listed a w
 | 0,_,_,_,h=>h
 | fuel+1,_,_,_,h=>⟨h.1,fun i hi=>wpOp_mono (fun a' w' h'=>zET fuel _ a' w' h'.2) (h.2 i hi)⟩
theorem zIu{bs:List Nat}{es es':List (World→Prop)}(hs:∀p∈es',p∈es):∀(fuel:Nat) (listed:Array Bool) (a:Act) (w:World),wpH P md ops Q bs es fuel listed a w→wpH P md ops Q bs es' fuel listed a w
 | 0,_,_,_,h=>h
 | fuel+1,_,_,_,h=>⟨h.1,fun i hi=>wpOp_mono (fun a' w' h'=>⟨⟨h'.1.1,fun hb p hp=>h'.1.2 hb p (hs p hp)⟩,zIu hs fuel _ a' w' h'.2⟩) (h.2 i hi)⟩
def blk(ops:Array Oper)(listed:Array Bool)(i:Nat):Nat→Nat→Bool
 | 0,_=>false
 | f+1,j=>match ops[j]? with
  | none=>false
  | some o=>o.after.toList.any fun e=>Region.binds .any e&&(e.on == i || (!listed.getD e.on true&&blk ops listed i f e.on))
theorem zGE{l:Array Bool}{i:Nat}(h:l.getD i true=false):l.getD i false=false:=by
 rcases Nat.lt_or_ge i l.size with h' | h'
 ·simp[h'] at h ⊢;exact h
 ·simp[Array.getElem?_eq_none h'] at h
theorem zIh{listed:Array Bool}{i:Nat}(hi:listed.getD i true=false):∀{f j:Nat},blk ops listed i f j=true→j ∉ Region.ready .any ops listed
 | 0,j,h=>by simp[blk] at h
 | f+1,j,h=>by
  intro hr
  obtain⟨_,o,ho,hall⟩:=mem_ready.1 hr
  simp only[blk,ho,List.any_eq_true,Bool.and_eq_true,Bool.or_eq_true,beq_iff_eq,Bool.not_eq_true'] at h
  obtain⟨e,he,hb,h⟩:=h
  have h1:=hall e (by simpa using he) hb
  rcases h with rfl | ⟨h2,_⟩
  ·rw[zGE hi] at h1;cases h1
  ·rw[zGE h2] at h1;cases h1
theorem zKg{listed:Array Bool}{i k:Nat}(hi:listed.getD i true=false)(hk:k∈Region.ready .any ops listed):∀{f j:Nat},blk ops listed i f j=true→blk ops (listed.setIfInBounds k true) i f j=true
 | 0,j,h=>by simp[blk] at h
 | f+1,j,h=>by
  simp only[blk] at h ⊢
  split at h
  ·cases h
  ·simp only[List.any_eq_true,Bool.and_eq_true,Bool.or_eq_true,beq_iff_eq,Bool.not_eq_true'] at h ⊢
   obtain⟨e,he,hb,h⟩:=h
   refine⟨e,he,hb,?_⟩
   rcases h with h | ⟨h2,h3⟩
   ·exact .inl h
   ·have:k≠e.on:=fun e'=>by subst e';exact zIh hi h3 hk
    exact .inr ⟨by rw[getD_set_ne true this];exact h2,zKg hi hk h3⟩
theorem zHs{bs:List Nat}{es:List (World→Prop)}{i:Nat}{oi:Oper}{v:Value}(hi:ops[i]?=some oi)(hsel:∀(j:Nat) (o:Oper) cs b,ops[j]?=some o→o.op≠.select cs b)
  (hQ:∀c a w,Q (.panic c) (a.put oi.dst v) w→Q (.panic c) a w) (hib:i ∉ bs) :
  ∀(fuel:Nat) (listed:Array Bool) (a:Act) (w:World),
   (∀j oj,ops[j]?=some oj→j≠i→listed.getD j true=false→(∀e∈oj.after,Region.binds .any e=true→e.on≠i)→oi.apart ops oj=true) →
   (∀j∈bs,j≠i→listed.getD j true=false→∃f,blk ops listed i f j=true) →
   i∈Region.ready .any ops listed→YieldsIf P ops (fun w1=>Fr w [] w1) oi v a →
   wpH P .any ops Q bs es fuel (listed.setIfInBounds i true) (a.put oi.dst v) w→wpH P .any ops Q bs es (fuel+1) listed a w:=by
 intro fuel
 induction fuel with
 | zero=>
  intro listed a w _ _ hr hy H
  refine⟨fun h=>(by rw[h] at hr;cases hr),fun j hj=>?_⟩
  by_cases hji:j=i
  ·subst hji;exact hy.wpOp hi (Fr.refl _ _) ⟨⟨fun _=>Fr.refl _ _,fun h=>absurd h hib⟩,H⟩
  ·have:=ready_mono hj hji
   rw[H.1] at this
   cases this
 | succ fuel ih=>
  intro listed a w hfree hbs hr hy H
  have hiun:=(mem_ready.1 hr).1
  refine⟨fun h=>(by rw[h] at hr;cases hr),fun j hj=>?_⟩
  by_cases hji:j=i
  ·subst hji;exact hy.wpOp hi (Fr.refl _ _) ⟨⟨fun _=>Fr.refl _ _,fun h=>absurd h hib⟩,H⟩
  ·have h1:=H.2 j (ready_mono hj hji)
   obtain⟨hjun,oj,hoj,hall⟩:=mem_ready.1 hj
   have hjb:j ∉ bs:=fun hm=>by
    obtain⟨f,hf⟩:=hbs j hm hji hjun
    exact zIh hiun hf hj
   have hnot:∀e∈oj.after,Region.binds .any e=true→e.on≠i:=fun e he hb heq=>by
    have h1:=hall e he hb
    rw[heq,zGE hiun] at h1;cases h1
   have h2:=wpOp_putIf hoj (hfree j oj hoj hji hjun hnot) (fun cs b=>hsel i oi cs b hi) (fun cs b=>hsel j oj cs b hoj) hQ hy h1
   refine wpOp_mono (fun a' w' h3=>?_) h2
   obtain⟨h4,h5,h6⟩:=h3
   have hF:=h5.1 hjb
   refine⟨⟨fun _=>hF,h5.2⟩,ih (listed.setIfInBounds j true) a' w' ?_ ?_ (ready_mono hr (Ne.symm hji)) ?_ ?_⟩
   ·intro k ok hk hki hun hno
    refine hfree k ok hk hki ?_ hno
    by_cases hjk:j=k
    ·subst hjk;exact hjun
    ·rw[getD_set_ne true hjk] at hun;exact hun
   ·intro k hk hki hun
    have:listed.getD k true=false:=by
     by_cases hjk:j=k
     ·subst hjk;exact hjun
     ·rw[getD_set_ne true hjk] at hun;exact hun
    obtain⟨f,hf⟩:=hbs k hk hki this
    exact⟨f,zKg hiun hj hf⟩
   ·rcases h4 with ⟨q1,q2⟩ | q
    ·exact .inl ⟨q1,fun w1 hw1=>q2 w1 (hF.trans hw1 (by simp) (by simp))⟩
    ·exact .inr q
   ·rw[Array.setIfInBounds_comm _ _ hji]
    exact h6
theorem zGi{bs:List Nat}{es:List (World→Prop)}{i:Nat}{oi:Oper}{v:Value}(hi:ops[i]?=some oi)(hsel:∀(j:Nat) (o:Oper) cs b,ops[j]?=some o→o.op≠.select cs b)
  (hQ:∀c a w,Q (.panic c) (a.put oi.dst v) w→Q (.panic c) a w) (hib:i ∉ bs) :
  ∀(fuel:Nat) (listed:Array Bool) (a:Act) (w:World),
   (∀j oj,ops[j]?=some oj→j≠i→listed.getD j true=false→(∀e∈oj.after,Region.binds .any e=true→e.on≠i)→oi.apart ops oj=true) →
   i∈Region.ready .any ops listed→YieldsIf P ops (fun _=>True) oi v a →
   wpH P .any ops Q bs es fuel (listed.setIfInBounds i true) (a.put oi.dst v) w→wpH P .any ops Q bs es (fuel+1) listed a w:=by
 intro fuel
 induction fuel with
 | zero=>
  intro listed a w _ hr hy H
  refine⟨fun h=>(by rw[h] at hr;cases hr),fun j hj=>?_⟩
  by_cases hji:j=i
  ·subst hji;exact hy.wpOp hi trivial ⟨⟨fun _=>Fr.refl _ _,fun h=>absurd h hib⟩,H⟩
  ·have:=ready_mono hj hji
   rw[H.1] at this
   cases this
 | succ fuel ih=>
  intro listed a w hfree hr hy H
  have hiun:=(mem_ready.1 hr).1
  refine⟨fun h=>(by rw[h] at hr;cases hr),fun j hj=>?_⟩
  by_cases hji:j=i
  ·subst hji;exact hy.wpOp hi trivial ⟨⟨fun _=>Fr.refl _ _,fun h=>absurd h hib⟩,H⟩
  ·have h1:=H.2 j (ready_mono hj hji)
   obtain⟨hjun,oj,hoj,hall⟩:=mem_ready.1 hj
   have hnot:∀e∈oj.after,Region.binds .any e=true→e.on≠i:=fun e he hb heq=>by
    have h1:=hall e he hb
    rw[heq,zGE hiun] at h1;cases h1
   have h2:=wpOp_putIf hoj (hfree j oj hoj hji hjun hnot) (fun cs b=>hsel i oi cs b hi) (fun cs b=>hsel j oj cs b hoj) hQ hy h1
   refine wpOp_mono (fun a' w' h3=>?_) h2
   obtain⟨h4,h5,h6⟩:=h3
   refine⟨h5,ih (listed.setIfInBounds j true) a' w' ?_ (ready_mono hr (Ne.symm hji)) h4 ?_⟩
   ·intro k ok hk hki hun hno
    refine hfree k ok hk hki ?_ hno
    by_cases hjk:j=k
    ·subst hjk;exact hjun
    ·rw[getD_set_ne true hjk] at hun;exact hun
   ·rw[Array.setIfInBounds_comm _ _ hji]
    exact h6
def Ys(P:Program)(o:Oper)(f:Operand→Value)(v:Value)(w:World):Prop:=∀w1,Fr w [] w1→(execOp f o).run P w1=.ok (.value v) w1
theorem Ys.grow{o:Oper}{f:Operand→Value}{v:Value}{w w':World}(h:Ys P o f v w)(hf:Fr w [] w'):Ys P o f v w':=fun w1 hw1=>h w1 (hf.trans hw1 (by simp) (by simp))
theorem zGj{bs:List Nat}{es:List (World→Prop)}{i:Nat}{oi:Oper}{f:Operand→Value}{v:Value}(hi:ops[i]?=some oi)(hsel:∀(j:Nat) (o:Oper) cs b,ops[j]?=some o→o.op≠.select cs b)
  (hQ:∀c a w,Q (.panic c) (a.put oi.dst v) w→Q (.panic c) a w) (hib:i ∉ bs) :
  ∀(fuel:Nat) (listed:Array Bool) (a:Act) (w:World),
   (∀j oj,ops[j]?=some oj→j≠i→listed.getD j true=false→(∀e∈oj.after,Region.binds .any e=true→e.on≠i)→oi.apart ops oj=true) →
   i∈Region.ready .any ops listed→YieldsIf P ops (fun w1=>(execOp f oi).run P w1=.ok (.value v) w1) oi v a→Ys P oi f v w →
   wpH P .any ops Q bs (Ys P oi f v :: es) fuel (listed.setIfInBounds i true) (a.put oi.dst v) w→wpH P .any ops Q bs es (fuel+1) listed a w:=by
 intro fuel
 induction fuel with
 | zero=>
  intro listed a w _ hr hy hY H
  refine⟨fun h=>(by rw[h] at hr;cases hr),fun j hj=>?_⟩
  by_cases hji:j=i
  ·subst hji;exact hy.wpOp hi (hY w (Fr.refl _ _)) ⟨⟨fun _=>Fr.refl _ _,fun h=>absurd h hib⟩,zIu (fun p hp=>List.mem_cons_of_mem _ hp) _ _ _ _ H⟩
  ·have:=ready_mono hj hji
   rw[H.1] at this
   cases this
 | succ fuel ih=>
  intro listed a w hfree hr hy hY H
  have hiun:=(mem_ready.1 hr).1
  refine⟨fun h=>(by rw[h] at hr;cases hr),fun j hj=>?_⟩
  by_cases hji:j=i
  ·subst hji;exact hy.wpOp hi (hY w (Fr.refl _ _)) ⟨⟨fun _=>Fr.refl _ _,fun h=>absurd h hib⟩,zIu (fun p hp=>List.mem_cons_of_mem _ hp) _ _ _ _ H⟩
  ·have h1:=H.2 j (ready_mono hj hji)
   obtain⟨hjun,oj,hoj,hall⟩:=mem_ready.1 hj
   have hnot:∀e∈oj.after,Region.binds .any e=true→e.on≠i:=fun e he hb heq=>by
    have h1:=hall e he hb
    rw[heq,zGE hiun] at h1;cases h1
   have h2:=wpOp_putIf hoj (hfree j oj hoj hji hjun hnot) (fun cs b=>hsel i oi cs b hi) (fun cs b=>hsel j oj cs b hoj) hQ hy h1
   refine wpOp_mono (fun a' w' h3=>?_) h2
   obtain⟨h4,h5,h6⟩:=h3
   have hY':Ys P oi f v w':=by
    by_cases hjb:j∈bs
    ·exact h5.2 hjb _ (List.mem_cons_self ..)
    ·exact hY.grow (h5.1 hjb)
   refine⟨⟨h5.1,fun hb p hp=>h5.2 hb p (List.mem_cons_of_mem _ hp)⟩,ih (listed.setIfInBounds j true) a' w' ?_ (ready_mono hr (Ne.symm hji)) h4 hY' ?_⟩
   ·intro k ok hk hki hun hno
    refine hfree k ok hk hki ?_ hno
    by_cases hjk:j=k
    ·subst hjk;exact hjun
    ·rw[getD_set_ne true hjk] at hun;exact hun
   ·rw[Array.setIfInBounds_comm _ _ hji]
    exact h6
theorem zOw{a:Act}{d:Option Nat}{v:Value}{t:Nat}(h:d≠some t):(a.put d v).tmps[t]?=a.tmps[t]?:=by
 unfold Act.put
 split
 ·rename_i d
  have:d≠t:=fun e=>h (by rw[e])
  simp[Array.getElem?_setIfInBounds,this]
 ·rfl
theorem zGh{i:Nat}{o:Oper}(hi:ops[i]?=some o){K:Act→World→Prop}{a:Act}{w:World}(h:wpOp P ops Q i K a w) :
  wpOp P ops Q i (fun a' w'=>K a' w'∧∃u,a'.tmps=(a.put o.dst u).tmps) a w:=by
 unfold wpOp at *
 simp only[hi] at *
 split
 ·rename_i hw
  simp only[hw,if_true] at h
  rcases h with h | h
  ·refine .inl ?_
   unfold Oper.wp at *
   generalize (execOp a.eval o).run P w=r at *
   cases r with
   | ok n w'=>
    cases n<;>simp only[Oper.upon] at h ⊢
    case value u=>exact⟨h,u,rfl⟩
    case skip=>exact⟨h,undef,rfl⟩
    case defer d=>exact⟨h,undef,by unfold Act.put;split<;>rfl⟩
    case enter f args=>
     refine Calls.mono h fun e w'' he=>?_
     cases e with
     | returned u=>exact⟨he,u,rfl⟩
     | panicked c=>exact he
     | outgrown=>exact he
    case row row args=>exact Rows.mono h fun u w'' he=>⟨he,u,rfl⟩
   | halt x w'=>
    cases x<;>simp only[Oper.upon] at h ⊢
    case panic u=>exact h
  ·exact .inr h
 ·rename_i hw
  simp only[hw] at h
  exact⟨h,undef,rfl⟩
end
inductive Pl where
 | done | take (i:Nat) (p:Pl) | tak2 (i:Nat) (p:Pl) | alt (i:Nat) (p q:Pl) | stop
def tkN : List Nat → Pl → Pl
  | [], p => p
  | i :: l, p => .take i (tkN l p)
@[simp] theorem tkN_nil (p : Pl) : tkN [] p = p := rfl
@[simp] theorem tkN_cons (i : Nat) (l : List Nat) (p : Pl) : tkN (i :: l) p = .take i (tkN l p) := rfl
def tkM : List Nat → Pl → Pl
  | [], p => p
  | i :: l, p => .tak2 i (tkM l p)
@[simp] theorem tkM_nil (p : Pl) : tkM [] p = p := rfl
@[simp] theorem tkM_cons (i : Nat) (l : List Nat) (p : Pl) : tkM (i :: l) p = .tak2 i (tkM l p) := rfl
def alS (i : Nat) (p : Pl) : Pl := .alt i p .stop
@[simp] theorem alS_eq (i : Nat) (p : Pl) : alS i p = .alt i p .stop := rfl
def alN : List Nat → Pl → Pl
  | [], p => p
  | i :: l, p => .alt i (alN l p) .stop
@[simp] theorem alN_nil (p : Pl) : alN [] p = p := rfl
@[simp] theorem alN_cons (i : Nat) (l : List Nat) (p : Pl) : alN (i :: l) p = .alt i (alN l p) .stop := rfl
def zCc(o:Op):Bool:=
 match o with
 | .move _=>true | .pick _ _ _=>true | .load _ _=>true | .fieldAddr _ _ _=>true | .indexAddr _ _ _=>true | .index _ _ _=>true | .binOp _ _ _ _ _=>true | .unOp _ _ _=>true | .nilCheck _=>true | .extract _ _=>true | .build _ _=>true | .convert _ _ _=>true | .slice _ _ _ _ _=>true
 | .call c=>(match c.callee with | .builtin .len=>true | .builtin .min=>true | .builtin .max=>true | _=>false)
 | _=>false
theorem zNO{o:Op}(h:zCc o=true):(zAJ o∨zAn o)∧zGP o=false:=by
 unfold zCc at h
 unfold zAJ zAn zGP
 split at h<;>first | exact⟨.inl trivial,rfl⟩ | exact⟨.inr trivial,rfl⟩ | (cases h;done) | skip
 rename_i c
 split at h<;>first | (cases h;done) | skip
 all_goals (rename_i hc;simp[hc])
def zGb(o:Op):Bool:=match o with | .move _=>true | .nilCheck _=>true | .binOp _ _ _ _ _=>true | .fieldAddr _ _ _=>true | .slice _ _ _ _ _=>true | _=>false
def zJy(o:Op):Bool:=match o with | .slice _ _ _ _ _=>true | _=>false
def ldB(ops:Array Oper)(m:Array Bool)(i:Nat):Bool:=
 match ops[i]? with
 | some o=>zCc o.op&&!zJy o.op&&(match o.op with | .convert _ _ _=>false | _=>true)&&o.guard.isNone&&o.dst.isSome&&(List.range ops.size).all fun j=>j == i || m.getD j true || (match ops[j]? with | some oj=>oj.dst != o.dst&&(match oj.dst with | some d=>!(o.looksAt ops).contains d | none=>true) | none=>true)
 | none=>false
def chk(ops:Array Oper)(bs:List Nat):Nat→Pl→Array Bool→List Nat→Bool
 | _,.done,m,_=>(Region.ready .any ops m).isEmpty
 | f+1,.take i p,m,_=>(Region.ready .any ops m).contains i&&Region.free .any ops m i&&(match ops[i]? with | some o=>zCc o.op&&o.dst.isSome | none=>false) &&
   ((match ops[i]? with | some o=>zGb o.op | none=>false) || bs.all fun j=>j == i || m.getD j true || blk ops m i ops.size j)&&!bs.contains i&&chk ops bs f p (m.setIfInBounds i true) []
 | f+1,.tak2 i p,m,_=>(Region.ready .any ops m).contains i&&Region.free .any ops m i&&ldB ops m i&&(match ops[i]? with | some o=>(match o.dst with | some d=>!(o.looksAt ops).contains d | none=>true) | none=>true)&&!bs.contains i&&chk ops bs f p (m.setIfInBounds i true) []
 | f+1,.alt i p q,m,acc=>chk ops bs f p (m.setIfInBounds i true) []&&chk ops bs (f+1) q m (i :: acc)
 | _+1,.stop,m,acc=>!(Region.ready .any ops m).isEmpty&&(Region.ready .any ops m).all fun i=>acc.contains i
 | 0,_,_,_=>false
def zJ5(ops:Array Oper)(bs:List Nat)(p:Pl):Prop:=Region.noSelect ops=true∧chk ops bs ops.size p (Array.replicate ops.size false) []=true
instance (ops:Array Oper) (bs:List Nat) (p:Pl):Decidable (zJ5 ops bs p):=by unfold zJ5;infer_instance
def zOn(E:Env)(S:St)(o:Op):Bool:=
 match o with
 | .call c=>(match c.callee with
  | .value f=>(match S.ev f,evs S true c.args.toList with
   | some (_,.fn f _),some (_,vs)=>(match zDV E.fn f (zEJ vs) with | some s=>!s.fresh | none=>false)
   | _,_=>false)
  | _=>false)
 | _=>false
def zLk(S:St):RR:=⟨True,True,.bool false,S.A,S.n⟩
def isLs:List PTy→Bool
 | []=>false
 | .list _ :: _=>true
 | _ :: r=>isLs r
def ldLs(E:Env)(S:St)(o:Op):Bool:=match o with | .load t x=>(match S.ev x,lk E.ty t with | some (_,.elp _ _ _ _),some ti=>isLs ti.leaves | _,_=>false) | _=>false
def splG(E:Env)(S:St)(o:Op):Bool:=if zOn E S o then true else ldLs E S o
def zDX(E:Env)(N:Nat)(keep:List Nat)(all:List Oper)(b:Bool)(i:Nat)(S:St)(K:St→Prop):Prop:=
 match all[i]? with
 | none=>False
 | some o=>match zDi S all o.guard with
  | none=>False
  | some g=>match zD4 E S g o with
   | none=>g=false∧zBt N keep false o.dst∧K (zDR keep S false o.dst (zLk S))
   | some R=>if splG E S o.op then (g=true→R.ob∧zBt N keep true o.dst∧(b=false→zEF o.op∨zFo E S o.op)∧(b=true→zAn o.op→zJy o.op=true∨R.n=S.n)∧(R.hy→K (zDR keep S true o.dst R)))∧(g=false→zBt N keep false o.dst∧K (zDR keep S false o.dst (zLk S)))
    else R.ob∧zBt N keep g o.dst∧(b=false→g=true→zEF o.op∨zFo E S o.op)∧(b=true→g=true→zAn o.op→zJy o.op=true∨R.n=S.n)∧(imp g R.hy→K (zDR keep S g o.dst R))
def zHG(E:Env)(S:St):List (Oper × Nat)→Prop
 | []=>True
 | (o,d) :: r=>(match S.slot d,zD4 E S true o with | some (true,sv),some R=>R.ob∧R.sv=sv∧R.n=S.n | _,_=>False)∧zHG E S r
def vcD(E:Env)(N:Nat)(keep:List Nat)(all:List Oper)(bs:List Nat)(K:St→Prop):List (Oper × Nat)→Pl→St→Prop
 | _,.done,S=>K S
 | es,.take i p,S=>zDX E N keep all true i S (vcD E N keep all bs K es p)
 | es,.tak2 i p,S=>(match all[i]? with | some o=>zDX E N keep all true i S (vcD E N keep all bs K ((o,o.dst.getD 0) :: es) p) | none=>False)
 | es,.alt i p q,S=>zDX E N keep all (yw bs i) i S (fun S'=>(if yw bs i then zHG E S' es else True)∧vcD E N keep all bs K es p S')∧vcD E N keep all bs K es q S
 | _,.stop,_=>True
section
variable {C:Cx} {S:St} {a:Act} {w:World} {o:Oper} {R:RR} {g:Bool} {all l:List Oper} {k:List KI}
theorem zCt(hC:C.Ok):∀(k:List KI) c a d v w,xt C k (.panic c) (a.put d v) w→xt C k (.panic c) a w
 | [],c,a,d,v,w,h=>hC.pan c a d v w h
 | .code _ :: k,c,a,d,v,w,h=>zCt hC k c a d v w h
 | .run _ _ :: k,c,a,d,v,w,h=>zCt hC k c a d v w h
 | .blk _ :: k,c,a,d,v,w,h=>zCt hC k c a d v w h
 | .post _ :: k,c,a,d,v,w,h=>zCt hC k c a d v w h
theorem Sat.grow{N:Nat}{w0:World}{X F:List Nat}{β:Nat→GV}{ϕ:Nat→List Nat}{w1:World}(sat:Sat N w0 X F S β ϕ a w)(h:Fr w [] w1):Sat N w0 X F S β ϕ a w1:=
 ⟨sat.df,sat.sz,sat.lp,sat.lt,sat.hp.grow fun b hb=>h.block b hb (by simp),sat.hb,sat.fr.trans h (fun x hx=>hx) (by simp),sat.gl⟩
theorem zGv{P:Program}{E:Env}{N:Nat}{w0:World}{X F:List Nat}{β:Nat→GV}{ϕ:Nat→List Nat}(hE:zCH P E)(hs:zCc o.op=true)(hd:o.dst≠none)(hcv:zAn o.op→R.n=S.n)(hR:zD4 E S true o=some R)(sat:Sat N w0 X F S β ϕ a w)(hob:R.ob) :
  R.hy∧∃v β' ϕ',(∀w1,Fr w [] w1→(execOp a.eval o).run P w1=.ok (.value v) w1)∧zLU w0 X F S R β ϕ o.dst v w β' ϕ':=by
 obtain⟨h1,h2⟩:=zNO hs
 replace h1:zAJ o.op∨(zAn o.op∧R.n=S.n):=h1.imp id fun h=>⟨h,hcv h⟩
 obtain⟨q1,v,w',β',ϕ',q2,q3,q4,_⟩:=zO2 hE h2 hR sat hob
 obtain⟨rfl,q5,q6⟩:=q4 h1
 refine⟨q1,v,β',ϕ',fun w1 hw1=>?_,q3⟩
 rcases q6 with q6 | q6
 ·obtain⟨r1,v1,w1',β1,ϕ1,r2,r3,r4,_⟩:=zO2 hE h2 hR (sat.grow hw1) hob
  obtain⟨rfl,r5,_⟩:=r4 h1
  have e1:=q3.v hd
  have e2:=r3.v hd
  have:v1=v:=by
   rw[e1,e2,SV.val_congr (n:=S.n) q3.bt _ (by rw[←q6];exact q3.lt),SV.val_congr (n:=S.n) r3.bt _ (by rw[←q6];exact q3.lt)]
  rw[←this];exact r5
 ·exact q6 w1 hw1
theorem zGw{E:Env}{g:Bool}(hp:zGb o.op=true)(hnb:∀op t x y t2,o.op≠.binOp op t x y t2)(h:zD4 E S g o=some R):za E S g o=some R:=by
 rcases zD3 h with h | h
 ·exact h
 ·unfold zCC at h
  split at h<;>first | (rename_i ho;rw[ho] at hp;simp[zGb] at hp;done) | (rename_i ho;exact absurd ho (hnb _ _ _ _ _)) | cases h
theorem zNY{P:Program}{E:Env}{N:Nat}{w0:World}{X F:List Nat}{β:Nat→GV}{ϕ:Nat→List Nat}{op:BinOp}{tx ty:TypeId}{x y:Operand}(hT:zAQ P E)(ho:o.op=.binOp op tx x y ty)(hR:zCC E S true o=some R)(sat:Sat N w0 X F S β ϕ a w)(hob:R.ob) :
  ∃v,∀w1,(execOp a.eval o).run P w1=.ok (.value v) w1:=by
 unfold zCC at hR
 rw[ho] at hR
 simp only at hR
 split at hR
 ·rename_i g' h off g'' ti hx hy hti
  cases hR
  obtain⟨q1,q2,e,q3⟩:=hob rfl
  obtain⟨_,x2⟩:=zD hx sat
  obtain⟨_,y2⟩:=zD hy sat
  obtain⟨x3,b,oo,hb⟩:=x2 q1
  have hd:=(hT _ _ hti).und
  rw[q3] at hd
  simp only[SV.val,hb] at x3
  exact⟨.bool false,fun w1=>by simp[execOp,ho,x3,(y2 q2).1,SV.val,eqGuard,binOp,yO hd]⟩
 ·rename_i g' h off g'' ti hx hy hti
  cases hR
  obtain⟨q1,q2,e,q3⟩:=hob rfl
  obtain⟨_,x2⟩:=zD hx sat
  obtain⟨_,y2⟩:=zD hy sat
  obtain⟨x3,b,oo,hb⟩:=x2 q1
  have hd:=(hT _ _ hti).und
  rw[q3] at hd
  simp only[SV.val,hb] at x3
  exact⟨.bool true,fun w1=>by simp[execOp,ho,x3,(y2 q2).1,SV.val,eqGuard,binOp,yO hd,bne]⟩
 ·rename_i g' g'' ti hx hy hti
  cases hR
  obtain⟨q1,q2,e,q3⟩:=hob rfl
  obtain⟨_,x2⟩:=zD hx sat
  obtain⟨_,y2⟩:=zD hy sat
  have hd:=(hT _ _ hti).und
  rw[q3] at hd
  exact⟨.bool true,fun w1=>by simp[execOp,ho,(x2 q1).1,(y2 q2).1,SV.val,eqGuard,binOp,yO hd]⟩
 ·rename_i g' g'' ti hx hy hti
  cases hR
  obtain⟨q1,q2,e,q3⟩:=hob rfl
  obtain⟨_,x2⟩:=zD hx sat
  obtain⟨_,y2⟩:=zD hy sat
  have hd:=(hT _ _ hti).und
  rw[q3] at hd
  exact⟨.bool false,fun w1=>by simp[execOp,ho,(x2 q1).1,(y2 q2).1,SV.val,eqGuard,binOp,yO hd,bne]⟩
 ·cases hR
theorem zMA{P:Program}{E:Env}{N:Nat}{w0:World}{X F:List Nat}{β:Nat→GV}{ϕ:Nat→List Nat}(hE:zCH P E)(hp:zGb o.op=true)(hns:zJy o.op=false)(hR:zD4 E S true o=some R)(sat:Sat N w0 X F S β ϕ a w)(hob:R.ob) :
  ∃v,∀w1,(execOp a.eval o).run P w1=.ok (.value v) w1:=by
 have hT:=hE.ty
 replace hR:za E S true o=some R∨(∃op t x y t2,o.op=.binOp op t x y t2)∧zCC E S true o=some R:=by
  rcases zD3 hR with h | h
  ·exact .inl h
  ·by_cases hnb:∀op t x y t2,o.op≠.binOp op t x y t2
   ·exact .inl (zGw hp hnb hR)
   ·exact .inr ⟨by
     obtain⟨op,hnb⟩:=Classical.not_forall.1 hnb
     obtain⟨t,hnb⟩:=Classical.not_forall.1 hnb
     obtain⟨x,hnb⟩:=Classical.not_forall.1 hnb
     obtain⟨y,hnb⟩:=Classical.not_forall.1 hnb
     obtain⟨t2,hnb⟩:=Classical.not_forall.1 hnb
     exact⟨op,t,x,y,t2,Classical.not_not.1 hnb⟩,h⟩
 rcases hR.symm with ⟨⟨op,t,x,y,t2,hob2⟩,hR⟩ | hR
 ·exact zNY hT hob2 hR sat hob
 cases ho:o.op<;>rw[ho] at hp hns<;>(try (simp[zGb] at hp;done))<;>(try (simp[zJy] at hns;done))
 case move x=>exact⟨a.eval x,fun w1=>by simp[execOp,ho]⟩
 case nilCheck x=>
  unfold za at hR
  rw[ho] at hR
  simp only at hR
  split at hR
  ·rename_i g' h off hx
   cases hR
   obtain⟨x1,x2⟩:=zD hx sat
   obtain⟨x3,b,of,hb⟩:=x2 (hob rfl)
   simp only[SV.val,hb] at x3
   exact⟨_,fun w1=>by simp[execOp,ho,x3];rfl⟩
  ·rename_i g' h i wd off hx
   cases hR
   obtain⟨x1,x2⟩:=zD hx sat
   obtain⟨x3,b,of,hb⟩:=x2 (hob rfl)
   rw[zCJ hb] at x3
   exact⟨_,fun w1=>by simp[execOp,ho,x3];rfl⟩
  ·cases hR
 case fieldAddr t x f=>
  unfold za at hR
  rw[ho] at hR
  simp only at hR
  split at hR
  ·rename_i g' h off ti hx hti
   split at hR
   ·rename_i fo ft hf
    cases hR
    obtain⟨q1,q2⟩:=hob
    obtain⟨x1,x2⟩:=zD hx sat
    obtain⟨x3,b,of,hb⟩:=x2 (q1 rfl)
    simp only[SV.val,hb] at x3
    exact⟨_,fun w1=>by simp[execOp,ho,x3,zFf hT hti hf q2];rfl⟩
   ·cases hR
  ·rename_i g' h i wd off ti hx hti
   split at hR
   ·rename_i fo ft hf
    cases hR
    obtain⟨q1,q2⟩:=hob
    obtain⟨x1,x2⟩:=zD hx sat
    obtain⟨x3,b,of,hb⟩:=x2 (q1 rfl)
    rw[zCJ hb] at x3
    exact⟨_,fun w1=>by simp[execOp,ho,x3,zFf hT hti hf q2];rfl⟩
   ·cases hR
  ·cases hR
 case binOp op tx x y ty=>
  unfold za at hR
  rw[ho] at hR
  simp only at hR
  split at hR
  ·rename_i g' k x1 g'' k' y1 hx hy
   split at hR
   ·rename_i ob v hv
    cases hR
    obtain⟨_,x2⟩:=zD hx sat
    obtain⟨_,y2⟩:=zD hy sat
    obtain⟨q1,q2,q3⟩:=hob rfl
    refine⟨SV.val β v,fun w1=>?_⟩
    obtain⟨r1,r2,r3⟩:=zHC (P:=P) (w:=w1) hv q3 (x2 q1).2 β tx
    simp[execOp,ho,(x2 q1).1,(y2 q2).1,SV.val,eqGuard,r1]
   ·cases hR
  ·rename_i g' x1 g'' y1 hx hy
   split at hR
   ·rename_i ob v hv
    cases hR
    obtain⟨_,x2⟩:=zD hx sat
    obtain⟨_,y2⟩:=zD hy sat
    obtain⟨q1,q2,q3⟩:=hob rfl
    refine⟨SV.val β v,fun w1=>?_⟩
    obtain⟨r1,r2,r3⟩:=zHB (P:=P) (w:=w1) hv q3 β tx
    simp[execOp,ho,(x2 q1).1,(y2 q2).1,SV.val,eqGuard,r1]
   ·cases hR
  ·rename_i g' x1 g'' y1 hx hy
   obtain⟨_,x2⟩:=zD hx sat
   obtain⟨_,y2⟩:=zD hy sat
   split at hR
   ·rename_i ti hti
    cases hR
    obtain⟨q1,q2,q3⟩:=hob rfl
    have hd:=(hT _ _ hti).und
    rw[q3] at hd
    exact⟨.bool (x1 == y1),fun w1=>by simp[execOp,ho,(x2 q1).1,(y2 q2).1,SV.val,eqGuard,binOp,zAt hd]⟩
   ·rename_i ti hti
    cases hR
    obtain⟨q1,q2,q3⟩:=hob rfl
    have hd:=(hT _ _ hti).und
    rw[q3] at hd
    exact⟨.bool (x1 != y1),fun w1=>by simp[execOp,ho,(x2 q1).1,(y2 q2).1,SV.val,eqGuard,binOp,zAt hd,bne]⟩
   ·cases hR
  ·rename_i g' xs g'' ys hx hy
   obtain⟨_,x2⟩:=zD hx sat
   obtain⟨_,y2⟩:=zD hy sat
   split at hR
   ·rename_i ti b hti hb
    cases hR
    obtain⟨q1,q2,q3⟩:=hob rfl
    exact⟨.bool b,fun w1=>by
     obtain⟨e1,e2⟩:=zKT (w:=w1) hT (hT _ _ hti) q3 hb β
     simp[execOp,ho,(x2 q1).1,(y2 q2).1,SV.val,run_eqGuard_agg w1 _ _ _ _ _ _ e2,run_eql_struct,e1]⟩
   ·rename_i ti b hti hb
    cases hR
    obtain⟨q1,q2,q3⟩:=hob rfl
    exact⟨.bool (!b),fun w1=>by
     obtain⟨e1,e2⟩:=zKT (w:=w1) hT (hT _ _ hti) q3 hb β
     simp[execOp,ho,(x2 q1).1,(y2 q2).1,SV.val,run_eqGuard_agg w1 _ _ _ _ _ _ e2,run_neq_struct,e1]⟩
   ·cases hR
  ·cases hR
theorem zGq{P:Program}{E:Env}{N:Nat}{w0:World}{X F:List Nat}{β:Nat→GV}{ϕ:Nat→List Nat}(hE:zCH P E)(hp:zJy o.op=true)(hR:zD4 E S true o=some R)(sat:Sat N w0 X F S β ϕ a w)(hob:R.ob) :
  R.hy∧∃v β' ϕ',(∀w1,(execOp a.eval o).run P w1=.ok (.value v) w1)∧zLU w0 X F S R β ϕ o.dst v w β' ϕ':=by
 have hT:=hE.ty
 replace hR:=zGw (by cases h:o.op<;>rw[h] at hp<;>first | rfl | (simp[zJy] at hp)) (by intro _ _ _ _ _ h;rw[h] at hp;simp[zJy] at hp) hR
 cases ho:o.op<;>rw[ho] at hp<;>(try (simp[zJy] at hp;done))
 rename_i t x lo hi mx
 obtain⟨q1,v,w',β',ϕ',q2,q3,q4,q5⟩:=zLo hT ho hR sat hob
 unfold za at hR
 rw[ho] at hR
 simp only at hR
 split at hR
 ·rename_i g' v0 o1 ln o2 hn hx hlo hhi
  obtain⟨x1,x2⟩:=zD hx sat
  unfold zDu at hR
  split at hR
  ·rename_i l ti hti
   cases hR
   obtain⟨⟨r1,r2,r3⟩,r4,r5,r6,r7⟩:=hob rfl
   obtain⟨x3,x4⟩:=x2 (r1 rfl)
   have hl:=zAx hlo r2 sat
   have hh:=zAx hhi r3 sat
   have key:∃v1,∀w2:World,(execOp a.eval o).run P w2=.ok (.value v1) w2:=by
    have hsz:(ByteArray.mk l.toArray).size=l.length:=by simp[ByteArray.size]
    refine⟨.string ((ByteArray.mk l.toArray).extract (ln.getD 0).toNat (hn.getD (l.length:Int)).toNat),fun w2=>?_⟩
    have hu:=zCN (hT _ _ hti) w2
    rw[r7] at hu
    have hb:=zAS (P:=P) (w:=w2) (b:=false) (f:=a.eval) hl hh (Nat.le_refl _) r4 r5 r6
    simp only[execOp,ho,x3,SV.val,Instr.sliceAt,Instr.slice,Sem.run_bind,hu,Result.andThen_ok,Option.map_none,hsz,hb]
    simp only[Option.isSome_none,Bool.false_eq_true,if_false,Sem.run_bind,Sem.run_pure,Result.andThen_ok,hb]
   obtain⟨v1,k2⟩:=key
   have k1:=k2 w
   rcases q2 with q2 | q2
   ·rw[k1] at q2
    cases q2
    exact⟨q1,_,β',ϕ',k2,q3⟩
   ·obtain⟨q2,_⟩:=q2
    rw[k1] at q2;cases q2
  ·rename_i i ti hti
   split at hR
   ·cases hR
   ·rename_i ow T es p te hnc hl hte
    have hnc:∀k,ow≠.cs k:=fun k e=>hnc k (by rw[e])
    cases hR
    obtain⟨_,⟨r1,r2,r3⟩,r4,r5,r6,r7,r8⟩:=hob
    obtain⟨x3,x4⟩:=x2 (r1 rfl)
    have hL:=zLL sat hl hnc
    obtain⟨hle,cap,ad,hv,hcap⟩:=zCk hL
    have hll:=zAx hlo r2 sat
    have hhh:=zAx hhi r3 sat
    have key:∃v1,∀w2:World,(execOp a.eval o).run P w2=.ok (.value v1) w2:=by
     refine⟨.slice (if cap=(ln.getD 0).toNat then ad else ad.map fun x=>x.add ((ln.getD 0).toNat*T.wd)) ((hn.getD (es.length:Int)).toNat - (ln.getD 0).toNat) (cap - (ln.getD 0).toNat),fun w2=>?_⟩
     have hu:=zCN (hT _ _ hti) w2
     rw[r7] at hu
     have hsz:=yZ (hT _ _ hte) w2
     have hb:=zAS (P:=P) (w:=w2) (b:=true) (f:=a.eval) hll hhh hcap r4 r5 r6
     simp only[SV.val,hv] at x3
     simp only[execOp,ho,x3,Instr.sliceAt,Instr.slice,Sem.run_bind,hu,Result.andThen_ok,Option.map_none,hb,hsz,Sem.run_pure,r8]
    obtain⟨v1,k⟩:=key
    rcases q2 with q2 | q2
    ·rw[k w] at q2
     cases q2
     exact⟨q1,_,β',ϕ',k,q3⟩
    ·obtain⟨q2,_⟩:=q2
     rw[k w] at q2;cases q2
   ·cases hR
  ·cases hR
 ·cases hR
theorem zGo{bs:List Nat}{b:Bool}{i:Nat}{K':St→Prop}{Q:Exit→Act→World→Prop}(hC:C.Ok)(hat:At C S a w)(h:zDX C.E C.N C.keep all b i S K') :
  wpOp C.P all.toArray Q i (fun a' w'=>(b=false→Fr w [] w')∧∃S',At C S' a' w'∧K' S') a w:=by
 unfold zDX at h
 split at h
 ·exact h.elim
 ·rename_i o ho
  split at h
  ·exact h.elim
  ·rename_i g hg
   split at h
   ·obtain⟨rfl,hd,hrest⟩:=h
    obtain⟨kp,hn,β,ϕ,sat,h0⟩:=hat
    have hgs:=zg hg sat
    unfold wpOp
    simp only[List.getElem?_toArray,ho]
    rw[if_neg (by rw[hgs];simp)]
    exact⟨fun _=>Fr.refl _ _,_,yI kp hn sat h0 hd rfl rfl,hrest⟩
   ·rename_i R hR
    split at h
    ·obtain⟨kp,hn,β,ϕ,sat,h0⟩:=hat
     have hgs:=zg hg sat
     unfold wpOp
     simp only[List.getElem?_toArray,ho]
     cases g with
     | true=>
      obtain⟨hob,hd,hgr,_,hrest⟩:=h.1 rfl
      rw[if_pos hgs]
      obtain⟨hhy,hwp⟩:=zD2 hC.env hR sat hob
      exact .inl (hwp _ _ fun v w' β' ϕ' hp hf=>⟨fun hb=>hf (hgr hb),_,yL kp hn sat h0 hd hp,hrest hhy⟩)
     | false=>
      obtain⟨hd,hrest⟩:=h.2 rfl
      rw[if_neg (by rw[hgs];simp)]
      exact⟨fun _=>Fr.refl _ _,_,yI kp hn sat h0 hd rfl rfl,hrest⟩
    obtain⟨hob,hd,hgr,_,hrest⟩:=h
    obtain⟨kp,hn,β,ϕ,sat,h0⟩:=hat
    have hgs:=zg hg sat
    unfold wpOp
    simp only[List.getElem?_toArray,ho]
    cases g with
    | true=>
     rw[if_pos hgs]
     obtain⟨hhy,hwp⟩:=zD2 hC.env hR sat hob
     exact .inl (hwp _ _ fun v w' β' ϕ' hp hf=>⟨fun hb=>hf (hgr hb rfl),_,yL kp hn sat h0 hd hp,hrest fun _=>hhy⟩)
    | false=>
     rw[if_neg (by rw[hgs];simp)]
     obtain⟨hA,hRn⟩:=zFu hR hob
     exact⟨fun _=>Fr.refl _ _,_,yI kp hn sat h0 hd hA hRn,hrest fun h=>by cases h⟩
theorem zGl{i:Nat}{K':St→Prop}(hC:C.Ok)(hat:At C S a w)(ho:all[i]?=some o)(hs:zCc o.op=true)(hsl:zJy o.op=false)(hdd:o.dst≠none)(h:zDX C.E C.N C.keep all true i S K') :
  ∃v,YieldsIf C.P all.toArray (fun w1=>Fr w [] w1) o v a∧∃S',At C S' (a.put o.dst v) w∧K' S':=by
 unfold zDX at h
 rw[ho] at h
 simp only at h
 split at h
 ·exact h.elim
 ·rename_i g hg
  split at h
  ·obtain⟨rfl,hd,hrest⟩:=h
   obtain⟨kp,hn,β,ϕ,sat,h0⟩:=hat
   have hgs:=zg hg sat
   exact⟨undef,.inr ⟨hgs,rfl⟩,_,yI kp hn sat h0 hd rfl rfl,hrest⟩
  ·rename_i R hR
   split at h
   ·obtain⟨kp,hn,β,ϕ,sat,h0⟩:=hat
    have hgs:=zg hg sat
    cases g with
    | true=>
     obtain⟨hob,hd,_,hcv,hrest⟩:=h.1 rfl
     obtain⟨hhy,v,β',ϕ',hrun,hp⟩:=zGv hC.env hs hdd (fun hc=>(hcv (by trivial) hc).resolve_left (by rw[hsl];simp)) hR sat hob
     exact⟨v,.inl ⟨hgs,hrun⟩,_,yL kp hn sat h0 hd hp,hrest hhy⟩
    | false=>
     obtain⟨hd,hrest⟩:=h.2 rfl
     exact⟨undef,.inr ⟨hgs,rfl⟩,_,yI kp hn sat h0 hd rfl rfl,hrest⟩
   obtain⟨hob,hd,_,hcv,hrest⟩:=h
   obtain⟨kp,hn,β,ϕ,sat,h0⟩:=hat
   have hgs:=zg hg sat
   cases g with
   | true=>
    obtain⟨hhy,v,β',ϕ',hrun,hp⟩:=zGv hC.env hs hdd (fun hc=>(hcv (by trivial) rfl hc).resolve_left (by rw[hsl];simp)) hR sat hob
    exact⟨v,.inl ⟨hgs,hrun⟩,_,yL kp hn sat h0 hd hp,hrest fun _=>hhy⟩
   | false=>
    obtain⟨hA,hRn⟩:=zFu hR hob
    exact⟨undef,.inr ⟨hgs,rfl⟩,_,yI kp hn sat h0 hd hA hRn,hrest fun h=>by cases h⟩
theorem zFa{i:Nat}{K':St→Prop}(hC:C.Ok)(hat:At C S a w)(ho:all[i]?=some o)(hs:zCc o.op=true)(hp:zGb o.op=true)(hdd:o.dst≠none)(h:zDX C.E C.N C.keep all true i S K') :
  ∃v,YieldsIf C.P all.toArray (fun _=>True) o v a∧∃S',At C S' (a.put o.dst v) w∧K' S':=by
 unfold zDX at h
 rw[ho] at h
 simp only at h
 split at h
 ·exact h.elim
 ·rename_i g hg
  split at h
  ·obtain⟨rfl,hd,hrest⟩:=h
   obtain⟨kp,hn,β,ϕ,sat,h0⟩:=hat
   have hgs:=zg hg sat
   exact⟨undef,.inr ⟨hgs,rfl⟩,_,yI kp hn sat h0 hd rfl rfl,hrest⟩
  ·rename_i R hR
   split at h
   ·obtain⟨kp,hn,β,ϕ,sat,h0⟩:=hat
    have hgs:=zg hg sat
    cases g with
    | true=>
     obtain⟨hob,hd,_,hcv,hrest⟩:=h.1 rfl
     cases hsl:zJy o.op with
     | true=>
      obtain⟨hhy,v,β',ϕ',hrun,hps⟩:=zGq hC.env hsl hR sat hob
      exact⟨v,.inl ⟨hgs,fun w1 _=>hrun w1⟩,_,yL kp hn sat h0 hd hps,hrest hhy⟩
     | false=>
     obtain⟨hhy,v,β',ϕ',hrun,hps⟩:=zGv hC.env hs hdd (fun hc=>(hcv (by trivial) hc).resolve_left (by rw[hsl];simp)) hR sat hob
     obtain⟨v',hv'⟩:=zMA hC.env hp hsl hR sat hob
     have e:v'=v:=by
      have e1:=hrun w (Fr.refl _ _)
      rw[hv' w] at e1
      cases e1;rfl
     subst e
     exact⟨v',.inl ⟨hgs,fun w1 _=>hv' w1⟩,_,yL kp hn sat h0 hd hps,hrest hhy⟩
    | false=>
     obtain⟨hd,hrest⟩:=h.2 rfl
     exact⟨undef,.inr ⟨hgs,rfl⟩,_,yI kp hn sat h0 hd rfl rfl,hrest⟩
   obtain⟨hob,hd,_,hcv,hrest⟩:=h
   obtain⟨kp,hn,β,ϕ,sat,h0⟩:=hat
   have hgs:=zg hg sat
   cases g with
   | true=>
    cases hsl:zJy o.op with
    | true=>
     obtain⟨hhy,v,β',ϕ',hrun,hps⟩:=zGq hC.env hsl hR sat hob
     exact⟨v,.inl ⟨hgs,fun w1 _=>hrun w1⟩,_,yL kp hn sat h0 hd hps,hrest fun _=>hhy⟩
    | false=>
    obtain⟨hhy,v,β',ϕ',hrun,hps⟩:=zGv hC.env hs hdd (fun hc=>(hcv (by trivial) rfl hc).resolve_left (by rw[hsl];simp)) hR sat hob
    obtain⟨v',hv'⟩:=zMA hC.env hp hsl hR sat hob
    have e:v'=v:=by
     have e1:=hrun w (Fr.refl _ _)
     rw[hv' w] at e1
     cases e1;rfl
    subst e
    exact⟨v',.inl ⟨hgs,fun w1 _=>hv' w1⟩,_,yL kp hn sat h0 hd hps,hrest fun _=>hhy⟩
   | false=>
    obtain⟨hA,hRn⟩:=zFu hR hob
    exact⟨undef,.inr ⟨hgs,rfl⟩,_,yI kp hn sat h0 hd hA hRn,hrest fun h=>by cases h⟩
theorem zKF{i:Nat}{K':St→Prop}{m:Array Bool}(hC:C.Ok)(hat:At C S a w)(ho:all[i]?=some o)(hl:ldB all.toArray m i=true)(h:zDX C.E C.N C.keep all true i S K') :
  ∃d v,zCc o.op=true∧¬zAn o.op∧o.dst=some d∧YieldsIf C.P all.toArray (fun w1=>(execOp a.eval o).run C.P w1=.ok (.value v) w1) o v a∧Ys C.P o a.eval v w ∧
   (a.put o.dst v).tmps[d]?=some v∧(∀j oj,all[j]?=some oj→j≠i→m.getD j true=false→oj.dst≠some d∧∀d',oj.dst=some d'→d' ∉ o.looksAt all.toArray)∧∃S',At C S' (a.put o.dst v) w∧K' S':=by
 have ho':all.toArray[i]?=some o:=by simpa using ho
 unfold ldB at hl
 rw[ho'] at hl
 simp only[Bool.and_eq_true,Option.isNone_iff_eq_none,List.all_eq_true,List.mem_range,Bool.or_eq_true,beq_iff_eq,Bool.not_eq_true'] at hl
 obtain⟨⟨⟨⟨⟨hs,hns⟩,hcv⟩,hgn⟩,hds⟩,hw⟩:=hl
 obtain⟨d,hdst⟩:=Option.isSome_iff_exists.1 hds
 have hcp:¬zAn o.op:=by
  intro hc
  cases hop:o.op<;>rw[hop] at hc hcv hns<;>first | exact hc.elim | (cases hcv;done) | (simp[zJy] at hns;done)
 unfold zDX at h
 rw[ho] at h
 simp only at h
 have hg:zDi S all o.guard=some true:=by rw[hgn];rfl
 rw[hg] at h
 simp only at h
 split at h
 ·cases h.1
 ·rename_i R hR
  have h:R.ob∧zBt C.N C.keep true o.dst∧(R.hy→K' (zDR C.keep S true o.dst R)):=by
   split at h
   ·obtain⟨a1,a2,_,_,a5⟩:=h.1 trivial
    exact⟨a1,a2,a5⟩
   ·obtain⟨a1,a2,_,_,a5⟩:=h
    exact⟨a1,a2,fun q=>a5 fun _=>q⟩
  obtain⟨hob,hd,hrest⟩:=h
  obtain⟨kp,hn,β,ϕ,sat,h0⟩:=hat
  obtain⟨hhy,v,β',ϕ',hrun,hp⟩:=zGv hC.env hs (by rw[hdst];simp) (fun hc=>absurd hc hcp) hR sat hob
  have hdlt:d < a.tmps.size:=by
   rw[sat.sz]
   rw[hdst] at hd
   exact hd.1
  refine⟨d,v,hs,hcp,hdst,.inl ⟨zg hg sat,fun w1 hw1=>hw1⟩,hrun,?_,fun j oj hj hji hm=>?_,_,yL kp hn sat h0 hd hp,hrest hhy⟩
  ·rw[hdst];simp[Act.put,hdlt]
  ·have hjlt:j < all.toArray.size:=by
    rcases Nat.lt_or_ge j all.length with h | h
    ·simpa using h
    ·rw[List.getElem?_eq_none h] at hj;cases hj
   have:=hw j hjlt
   have hj':all.toArray[j]?=some oj:=by simpa using hj
   rw[hj'] at this
   simp only[hji,false_or,hm,Bool.false_eq_true,Bool.and_eq_true,bne_iff_ne] at this
   refine⟨by rw[←hdst];exact this.1,fun d' hd'=>?_⟩
   have h2:=this.2
   rw[hd'] at h2
   simpa using h2
structure zEn where
 o:Oper
 d:Nat
 f:Operand→Value
 v:Value
def zEn.ok(all:List Oper)(m:Array Bool)(a:Act)(q:zEn):Prop:=
 zCc q.o.op=true∧¬zAn q.o.op∧q.o.dst=some q.d∧execOp a.eval q.o=execOp q.f q.o∧a.tmps[q.d]?=some q.v∧∀j oj,all[j]?=some oj→m.getD j true=false→oj.dst≠some q.d∧∀d',oj.dst=some d'→d' ∉ q.o.looksAt all.toArray
theorem zPl{o:Op}(h:zCc o=true):∀cs b,o≠.select cs b:=by
 intro cs b e;subst e;simp[zCc] at h
theorem zEn.step{m:Array Bool}{a a':Act}{q:zEn}{i:Nat}{oi:Oper}(h:q.ok all m a)(hoi:all[i]?=some oi)(hun:m.getD i true=false){u:Value}(hk:a'.tmps=(a.put oi.dst u).tmps):q.ok all (m.setIfInBounds i true) a':=by
 obtain⟨h1,h1b,h2,h3,h4,h5⟩:=h
 have h6:=h5 i oi hoi hun
 have he:a'.eval=(a.put oi.dst u).eval:=by
  funext x
  cases x<;>simp only[Act.eval,hk]
 refine⟨h1,h1b,h2,?_,by rw[hk,zOw h6.1];exact h4,fun j oj hj hm=>h5 j oj hj ?_⟩
 ·rw[he,execOp_put q.o (zPl h1) a oi.dst u h6.2];exact h3
 ·by_cases hij:i=j
  ·subst hij
   by_cases hlt:i < m.size
   ·simp[hlt] at hm
   ·simp[Array.setIfInBounds_eq_of_size_le (Nat.le_of_not_lt hlt)] at hm ⊢
    exact hm
  ·rwa[getD_set_ne true hij] at hm
theorem zDY{S':St}(hC:C.Ok)(hat:At C S' a w):∀{L:List zEn} {m:Array Bool},(∀q∈L,q.ok all m a)→zHG C.E S' (L.map fun q=>(q.o,q.d))→∀p∈L.map fun q=>Ys C.P q.o q.f q.v,p w
 | [],_,_,_,p,hp=>by simp at hp
 | q :: L,m,hL,h,p,hp=>by
  rcases List.mem_cons.1 hp with rfl | hp
  ·obtain⟨hs,hcp,hdst,hex,hv,_⟩:=hL q (List.mem_cons_self ..)
   obtain⟨h1,_⟩:=h
   split at h1
   ·rename_i sv R hsl hR
    obtain⟨hob,hsv,hn⟩:=h1
    obtain⟨kp,hn0,β,ϕ,sat,h0⟩:=hat
    obtain⟨hhy,v',β',ϕ',hrun,hps⟩:=zGv hC.env hs (by rw[hdst];simp) (fun hc=>absurd hc hcp) hR sat hob
    have hslv:a.tmps[q.d]?=some (SV.val β sv)∧SV.lt S'.n sv:=by
     unfold St.slot at hsl
     split at hsl
     ·rename_i y hy
      cases hsl
      have:=sat.lt q.d true sv hy
      exact⟨(this.2.1 rfl).1,this.1 rfl⟩
     ·split at hsl
      ·rename_i y hy
       cases hsl
       exact⟨(sat.lp q.d sv hy).1,(sat.lp q.d sv hy).2.1⟩
      ·cases hsl
    have e:v'=q.v:=by
     have e1:=hps.v (by rw[hdst];simp)
     rw[hsv,SV.val_congr (n:=S'.n) hps.bt _ hslv.2] at e1
     rw[hslv.1] at hv
     rw[e1];exact Option.some.inj hv
    intro w1 hw1
    have:=hrun w1 hw1
    rw[e,hex] at this
    exact this
   ·exact h1.elim
  ·exact zDY hC hat (fun q hq=>hL q (List.mem_cons_of_mem _ hq)) h.2 p hp
theorem zBv{bs:List Nat}{K:St→Prop}{Q:Exit→Act→World→Prop}(hC:C.Ok)(hns:Region.noSelect all.toArray=true)(hQ:∀c a d v w,Q (.panic c) (a.put d v) w→Q (.panic c) a w)
  (hK:∀S a w,K S→At C S a w→Q .normal a w):∀(p:Pl) (f:Nat) (m:Array Bool) (acc:List Nat) (L:List zEn) (S:St) (a:Act) (w:World),chk all.toArray bs f p m acc=true→At C S a w→vcD C.E C.N C.keep all bs K (L.map fun q=>(q.o,q.d)) p S→(∀q∈L,q.ok all m a) →
  (∀f',f=f'+1→∀i∈acc,i∈Region.ready .any all.toArray m→wpOp C.P all.toArray Q i (fun a' w'=>((i ∉ bs→Fr w [] w')∧(i∈bs→∀p∈L.map fun q=>Ys C.P q.o q.f q.v,p w'))∧wpH C.P .any all.toArray Q bs (L.map fun q=>Ys C.P q.o q.f q.v) f' (m.setIfInBounds i true) a' w') a w) →
  wpH C.P .any all.toArray Q bs (L.map fun q=>Ys C.P q.o q.f q.v) f m a w
 | .done,f,m,acc,L,S,a,w,hc,hat,hv,_,_=>by
  have hr:Region.ready .any all.toArray m=[]:=by
   cases f<;>simpa[chk] using hc
  cases f with
  | zero=>exact⟨hr,hK S a w hv hat⟩
  | succ f=>exact⟨fun _=>hK S a w hv hat,fun i hi=>by rw[hr] at hi;cases hi⟩
 | .take i p,0,m,acc,L,S,a,w,hc,hat,hv,_,_=>by simp[chk] at hc
 | .take i p,f+1,m,acc,L,S,a,w,hc,hat,hv,hL,_=>by
  simp only[chk,Bool.and_eq_true] at hc
  obtain⟨⟨⟨⟨⟨c1,c2⟩,c3⟩,c4⟩,c6⟩,c5⟩:=hc
  have hib:i ∉ bs:=by simpa using c6
  have hrd:i∈Region.ready .any all.toArray m:=by simpa using c1
  split at c3
  ·rename_i oi hoi
   simp only[Bool.and_eq_true] at c3
   have hoi':all[i]?=some oi:=by simpa using hoi
   have hdd:oi.dst≠none:=by intro e;rw[e] at c3;simp at c3
   have hL':∀v,∀q∈L,q.ok all (m.setIfInBounds i true) (a.put oi.dst v):=fun v q hq=>zEn.step (hL q hq) hoi' (mem_ready.1 hrd).1 rfl
   cases hpu:zGb oi.op with
   | true=>
    obtain⟨v,y1,S',y2,y3⟩:=zFa hC hat hoi' c3.1 hpu hdd hv
    exact zGi hoi (Region.noSelect_spec hns) (fun c a w=>hQ c a _ v w) hib f m a w (Region.free_spec hoi c2) hrd y1 (zBv hC hns hQ hK p f _ [] L S' _ w c5 y2 y3 (hL' v) (fun _ _ i hi=>by cases hi))
   | false=>
    simp only[hoi,hpu,Bool.false_or] at c4
    obtain⟨v,y1,S',y2,y3⟩:=zGl hC hat hoi' c3.1 (by cases h:oi.op<;>rw[h] at hpu<;>first | rfl | (simp[zGb] at hpu)) hdd hv
    refine zHs hoi (Region.noSelect_spec hns) (fun c a w=>hQ c a _ v w) hib f m a w (Region.free_spec hoi c2) ?_ hrd y1 (zBv hC hns hQ hK p f _ [] L S' _ w c5 y2 y3 (hL' v) (fun _ _ i hi=>by cases hi))
    intro j hj hji hun
    have:=List.all_eq_true.1 c4 j hj
    simp only[Bool.or_eq_true,beq_iff_eq,hji,false_or,hun,Bool.false_eq_true] at this
    exact⟨_,this⟩
  ·cases c3
 | .tak2 i p,0,m,acc,L,S,a,w,hc,hat,hv,_,_=>by simp[chk] at hc
 | .tak2 i p,f+1,m,acc,L,S,a,w,hc,hat,hv,hL,_=>by
  simp only[chk,Bool.and_eq_true] at hc
  obtain⟨⟨⟨⟨⟨c1,c2⟩,c3⟩,c7⟩,c6⟩,c5⟩:=hc
  have hib:i ∉ bs:=by simpa using c6
  have hrd:i∈Region.ready .any all.toArray m:=by simpa using c1
  obtain⟨hun,oi,hoi,_⟩:=mem_ready.1 hrd
  have hoi':all[i]?=some oi:=by simpa using hoi
  simp only[vcD,hoi'] at hv
  obtain⟨d,v,e1,e1b,e2,y1,y2,y4,y5,S',y6,y7⟩:=zKF hC hat hoi' c3 hv
  rw[e2] at y7
  refine zGj hoi (Region.noSelect_spec hns) (fun c a w=>hQ c a _ v w) hib f m a w (Region.free_spec hoi c2) hrd y1 y2 ?_
  have hself:∀d',oi.dst=some d'→d' ∉ oi.looksAt all.toArray:=by
   intro d' hd'
   have hw:=c7
   rw[hoi] at hw
   simp only[hd'] at hw
   simpa using hw
  refine zBv hC hns hQ hK p f _ [] (⟨oi,d,a.eval,v⟩ :: L) S' _ w c5 y6 y7 ?_ (fun _ _ i hi=>by cases hi)
  intro q hq
  rcases List.mem_cons.1 hq with rfl | hq
  ·refine⟨e1,e1b,e2,execOp_put oi (zPl e1) a oi.dst v hself,y4,fun j oj hj hm=>?_⟩
   by_cases hij:i=j
   ·subst hij
    have hlt:i < m.size:=by
     rcases Nat.lt_or_ge i m.size with h | h
     ·exact h
     ·simp[Array.getElem?_eq_none h] at hun
    simp[hlt] at hm
   ·exact y5 j oj hj (Ne.symm hij) (by rwa[getD_set_ne true hij] at hm)
  ·exact zEn.step (hL q hq) hoi' hun rfl
 | .alt i p q,0,m,acc,L,S,a,w,hc,hat,hv,_,_=>by simp[chk] at hc
 | .alt i p q,f+1,m,acc,L,S,a,w,hc,hat,hv,hL,hacc=>by
  simp only[chk,Bool.and_eq_true] at hc
  obtain⟨hv1,hv2⟩:=hv
  refine zBv hC hns hQ hK q (f+1) m (i :: acc) L S a w hc.2 hat hv2 hL fun f' hf' j hj hrd=>?_
  cases hf'
  rcases List.mem_cons.1 hj with e | hj
  ·subst e
   obtain⟨hun,oi,hoi,_⟩:=mem_ready.1 hrd
   have hoi':all[j]?=some oi:=by simpa using hoi
   refine wpOp_mono (fun a' w' h3=>?_) (zGh hoi (zGo (bs:=bs) hC hat hv1))
   obtain⟨⟨h4,S',h5,h6,h7⟩,hk⟩:=h3
   obtain⟨u,hk⟩:=hk
   have hL':∀q∈L,q.ok all (m.setIfInBounds j true) a':=fun q hq=>zEn.step (hL q hq) hoi' hun hk
   refine⟨⟨fun hb=>h4 ?_,fun hb=>?_⟩,zBv hC hns hQ hK p f _ [] L S' a' w' hc.1 h5 h7 hL' (fun _ _ i hi=>by cases hi)⟩
   ·cases hm:yw bs j with
    | false=>rfl
    | true=>exact absurd (yK.1 hm) hb
   ·rw[if_pos (yK.2 hb)] at h6
    exact zDY hC h5 hL' h6
  ·exact hacc f rfl j hj hrd
 | .stop,0,m,acc,L,S,a,w,hc,hat,hv,_,_=>by simp[chk] at hc
 | .stop,f+1,m,acc,L,S,a,w,hc,hat,hv,hL,hacc=>by
  simp only[chk,Bool.and_eq_true,Bool.not_eq_true',List.all_eq_true,List.contains_iff_mem] at hc
  refine⟨fun h=>by rw[h] at hc;simp at hc,fun i hi=>hacc f rfl i (hc.2 i hi) hi⟩
theorem zJj(h:At C S a w):At C S a { w with drawn:=w.drawn+1 }:=by
 obtain⟨kp,hn,β,ϕ,sat,h0⟩:=h
 exact⟨kp,hn,β,ϕ,⟨sat.df,sat.sz,sat.lp,sat.lt,sat.hp.world fun _ _ _ _ _ _=>rfl,sat.hb,⟨sat.fr.os,sat.fr.tape,sat.fr.output,sat.fr.size,sat.fr.block⟩,sat.gl⟩,h0⟩
theorem zPJ{id:Nat}{ops:Array Oper}{bs:List Nat}{p:Pl}{K:St→Prop}(hC:C.Ok)(hK:∀S,K S→WP C k S)(hns:Region.noSelect ops=true)(hc:chk ops bs ops.size p (Array.replicate ops.size false) []=true)
  (h:vcD C.E C.N C.keep ops.toList bs K [] p { S with Lt:=[] }):WP C (.code (.region id ops true) :: k) S:=by
 intro a w hat
 refine wp_region_any hC.mix (zET (bs:=bs) (es:=[]) _ _ _ _ ?_)
 have:=zBv (all:=ops.toList) (bs:=bs) (K:=K) (Q:=xt C k) hC (by simpa using hns) (fun c a d v w=>zCt hC k c a d v w) (fun S' a w hS hat=>hK S' hS a w hat) p ops.size (Array.replicate ops.size false) [] [] { S with Lt:=[] } a _ (by simpa using hc) (zM4 (zJj hat)) h (fun q hq=>by cases hq)
  (fun _ _ i hi=>by cases hi)
 simpa using this
end
end
section
variable [zZ]
def vcK(E:Env)(N:Nat)(keep:List Nat)(fin:St→Prop)(W:List KI→St→Prop)(pls:List (Nat × List Nat × Pl))(brk:List Nat):List KI→St→Prop
 | [],S=>fin S
 | .post p :: _,S=>p S
 | .blk _ :: k,S=>vcK E N keep fin W pls brk k S
 | .run _ [] :: k,S=>vcK E N keep fin W pls brk k S
 | .run all (o :: l) :: k,S=>
  match zDi S all o.guard with
  | none=>False
  | some g=>match zD4 E S g o with
   | none=>(match zKB E S o with
    | none=>(g=true→W (.run all (o :: l) :: k) S)∧(g=false→zBt N keep false o.dst∧vcK E N keep fin W pls brk (.run all l :: k) (zDR keep S false o.dst (zLk S)))
    | some (ob,es,ng)=>g=true∧ob∧zBt N keep g o.dst∧∀b:Bool,(b=true→es=[])→vcK E N keep fin W pls brk (.run all l :: k) (zDR keep S g o.dst ⟨True,True,.bool (if ng then !b else b),S.A,S.n⟩))
   | some R=>if splG E S o.op then (g=true→R.ob∧zBt N keep true o.dst∧(R.hy→vcK E N keep fin W pls brk (.run all l :: k) (zDR keep S true o.dst R))) ∧
      (g=false→zBt N keep false o.dst∧vcK E N keep fin W pls brk (.run all l :: k) (zDR keep S false o.dst (zLk S)))
     else R.ob∧zBt N keep g o.dst∧(imp g R.hy→vcK E N keep fin W pls brk (.run all l :: k) (zDR keep S g o.dst R))
 | .code .skip :: k,S=>vcK E N keep fin W pls brk k S
 | .code (.seq a b) :: k,S=>vcK E N keep fin W pls brk (.code a :: .code b :: k) S
 | .code (.region id ops d) :: k,S=>if brk.contains id then W (.code (.region id ops d) :: k) S else if d then (match lk pls id with
   | some (bs,p)=>zJ5 ops bs p∧vcD E N keep ops.toList bs (fun S'=>vcK E N keep fin W pls brk k S') [] p { S with Lt:=[] }
   | none=>W (.code (.region id ops d) :: k) S)
  else vcK E N keep fin W pls brk (.run ops.toList ops.toList :: k) { S with Lt:=[] }
 | .code (.cond c a b) :: k,S=>match S.ev c with
  | some (g,.bool x)=>g=true∧(x=true→vcK E N keep fin W pls brk (.code a :: k) S)∧(x=false→vcK E N keep fin W pls brk (.code b :: k) S)
  | _=>False
 | .code (.block id c) :: k,S=>vcK E N keep fin W pls brk (.code c :: .blk id :: k) S
 | .code (.exit id) :: k,S=>match h:zOr id k with
  | some k'=>vcK E N keep fin W pls brk k' S
  | none=>False
 | .code .ret :: k,S=>fin S
 | .code (.loop c) :: k,S=>W (.code (.loop c) :: k) S
 | .code _ :: _,_=>False
termination_by k=>ksz k
decreasing_by
 all_goals simp only[ksz,csz,List.length_cons]
 all_goals first | omega | (letI:zZ:=⟨fun _=>false⟩;have:=zEV h;omega)
theorem zME{P:Program}{E:Env}{N:Nat}{w0:World}{X F:List Nat}{S:St}{β:Nat→GV}{ϕ:Nat→List Nat}{a:Act}{w:World}{o:Oper}{ob:Prop}{es:List PV}{ng:Bool}(hT:zAQ P E)(h:zKB E S o=some (ob,es,ng))(hob:ob)(sat:Sat N w0 X F S β ϕ a w) :
  ∃b:Bool,(b=true→es=[])∧zRa P o a w (SV.val β (.bool (if ng then !b else b))) w:=by
 unfold zKB at h
 split at h
 ·rename_i op t x y ty ho
  split at h
  ·rename_i gx i gy ti hx hy hti
   have key:∀(ob':Prop) (T:PTy),yS S.A (.list T) (.sl i)=some (ob',.list es)→gx=true∧gy=true∧ob'∧ti.d=.slice ti.el →
     ∃(b:Bool) (ad:Option Addr) (l c:Nat),(b=true→es=[])∧a.eval x=.slice ad l c∧a.eval y=.slice none 0 0∧(Op.equal t (.slice ad l c) (.slice none 0 0)).run P w=.ok b w:=by
    rintro ob' T hr ⟨q1,q2,q3,q4⟩
    obtain⟨_,x2⟩:=zD hx sat
    obtain⟨_,y2⟩:=zD hy sat
    obtain⟨x3,x4⟩:=x2 q1
    obtain⟨y3,_⟩:=y2 q2
    have hd:=(hT _ _ hti).und
    rw[q4] at hd
    obtain⟨f,hL,_⟩:=zAk (A:=S.A) (ts:=[.list T]) (xs:=[.sl i]) (ob:=ob'∧True) (ps:=[.list es]) (by simp only[zv,hr]) ⟨q3,trivial⟩ sat.hp ⟨x4,trivial⟩
    simp only[SV.vals,SV.val] at hL x3
    generalize (β i).v=v at hL x3
    cases hL with
    | empty _=>exact⟨_,_,_,_,fun _=>rfl,x3,y3,zDw hd _ _ _⟩
    | list _ _ _ _ _ _=>exact⟨false,_,_,_,(fun h=>by cases h),x3,y3,zDw hd _ _ _⟩
   split at h
   ·rename_i hr
    cases h
    obtain⟨b,ad,l,c,k1,k2,k3,k4⟩:=key _ _ hr hob
    exact⟨b,k1,.inl (by simp[execOp,ho,k2,k3,SV.val,eqGuard,binOp,k4])⟩
   ·rename_i hr
    cases h
    obtain⟨b,ad,l,c,k1,k2,k3,k4⟩:=key _ _ hr hob
    exact⟨b,k1,.inl (by simp[execOp,ho,k2,k3,SV.val,eqGuard,binOp,k4])⟩
   ·cases h
  ·cases h
 ·cases h
section
variable {C:Cx} {S:St} {a:Act} {w:World} {o:Oper} {R:RR} {g:Bool} {all l:List Oper} {k:List KI}
theorem zHt{W:List KI→St→Prop}{pls:List (Nat × List Nat × Pl)}{brk:List Nat}(hC:C.Ok)(hW:∀k S,W k S→WP C k S):∀(n:Nat) (k:List KI) (S:St),ksz k≤n→vcK C.E C.N C.keep C.fin W pls brk k S→WP C k S:=by
 intro n
 induction n with
 | zero=>
  intro k S hk h a w hat
  match k with
  | []=>unfold vcK at h;exact(hC.fin _ _ _ hat h).1
  | .code c :: k=>simp[ksz] at hk
  | .run _ _ :: k=>simp[ksz] at hk
  | .blk _ :: k=>simp[ksz] at hk
  | .post _ :: k=>simp[ksz] at hk
 | succ n ih=>
  intro k S hk h a w hat
  match k with
  | []=>unfold vcK at h;exact(hC.fin _ _ _ hat h).1
  | .post p :: k=>unfold vcK at h;exact⟨S,hat,h⟩
  | .blk i :: k=>
   unfold vcK at h
   simp only[ksz] at hk
   exact ih k S (by omega) h a w hat
  | .run all [] :: k=>
   unfold vcK at h
   simp only[ksz] at hk
   exact ih k S (by omega) h a w hat
  | .run all (o :: l) :: k=>
   unfold vcK at h
   simp only[ksz,List.length_cons] at hk
   split at h
   ·exact h.elim
   ·rename_i g hg
    split at h
    ·split at h
     ·cases g with
      | true=>exact hW _ _ (h.1 rfl) a w hat
      | false=>
       obtain⟨hd,hrest⟩:=h.2 rfl
       obtain⟨kp,hn,β,ϕ,sat,h0⟩:=hat
       have hgs:=zg hg sat
       show wpList C.P all.toArray (xt C k) (o :: l) a w
       unfold wpList
       rw[if_neg (by rw[hgs];simp)]
       exact ih (.run all l :: k) _ (by simp only[ksz];omega) hrest _ _ (yI kp hn sat h0 hd rfl rfl)
     ·rename_i ob es ng hnr
      obtain⟨rfl,hob,hd,hrest⟩:=h
      obtain⟨kp,hn,β,ϕ,sat,h0⟩:=hat
      have hgs:=zg hg sat
      show wpList C.P all.toArray (xt C k) (o :: l) a w
      unfold wpList
      rw[if_pos hgs]
      obtain⟨b,hb1,hb2⟩:=zME hC.env.ty hnr hob sat
      exact .inl (hb2.wp (ih (.run all l :: k) _ (by simp only[ksz];omega) (hrest b hb1) _ _ (yL kp hn sat h0 hd (zIE sat trivial trivial))))
    ·rename_i R hR
     split at h
     ·obtain⟨kp,hn,β,ϕ,sat,h0⟩:=hat
      have hgs:=zg hg sat
      show wpList C.P all.toArray (xt C k) (o :: l) a w
      unfold wpList
      cases g with
      | true=>
       obtain⟨hob,hd,hrest⟩:=h.1 rfl
       rw[if_pos hgs]
       obtain⟨hhy,hwp⟩:=zD2 hC.env hR sat hob
       refine .inl (hwp _ _ fun v w' β' ϕ' hp _=>?_)
       exact ih (.run all l :: k) _ (by simp only[ksz];omega) (hrest hhy) _ _ (yL kp hn sat h0 hd hp)
      | false=>
       obtain⟨hd,hrest⟩:=h.2 rfl
       rw[if_neg (by rw[hgs];simp)]
       exact ih (.run all l :: k) _ (by simp only[ksz];omega) hrest _ _ (yI kp hn sat h0 hd rfl rfl)
     obtain⟨hob,hd,hrest⟩:=h
     obtain⟨kp,hn,β,ϕ,sat,h0⟩:=hat
     have hgs:=zg hg sat
     show wpList C.P all.toArray (xt C k) (o :: l) a w
     unfold wpList
     cases g with
     | true=>
      rw[if_pos hgs]
      obtain⟨hhy,hwp⟩:=zD2 hC.env hR sat hob
      refine .inl (hwp _ _ fun v w' β' ϕ' hp _=>?_)
      exact ih (.run all l :: k) _ (by simp only[ksz];omega) (hrest fun _=>hhy) _ _ (yL kp hn sat h0 hd hp)
     | false=>
      rw[if_neg (by rw[hgs];simp)]
      obtain⟨hA,hRn⟩:=zFu hR hob
      exact ih (.run all l :: k) _ (by simp only[ksz];omega) (hrest fun h=>by cases h) _ _ (yI kp hn sat h0 hd hA hRn)
  | .code c :: k=>
   simp only[ksz] at hk
   cases c with
   | skip=>
    unfold vcK at h
    exact wp_skip (ih k S (by omega) h a w hat)
   | seq x y=>
    unfold vcK at h
    simp only[csz] at hk
    have h1:=ih (.code x :: .code y :: k) S (by simp only[ksz];omega) h a w hat
    exact wp_seq h1
   | region id ops d=>
    unfold vcK at h
    split at h
    ·exact hW _ _ h a w hat
    ·split at h
     ·rename_i hd
      subst hd
      split at h
      ·rename_i bs p hp
       obtain⟨h1,h2⟩:=h
       exact zPJ hC (K:=fun S'=>vcK C.E C.N C.keep C.fin W pls brk k S') (fun S' hS'=>ih k S' (by omega) hS') h1.1 h1.2 h2 a w hat
      ·exact hW _ _ h a w hat
     rename_i hd
     simp only[csz] at hk
     have hd:d=false:=by cases d<;>simp at hd ⊢
     subst hd
     have h1:=ih (.run ops.toList ops.toList :: k) _ (by simp only[ksz];omega) h a w (zM4 hat)
     refine wp_region_list ?_
     have h2:wpList C.P ops.toList.toArray (xt C k) ops.toList a w:=h1
     simpa using h2
   | cond c x y=>
    unfold vcK at h
    simp only[csz] at hk
    split at h
    ·rename_i g b hc
     obtain⟨hg,ht,hf⟩:=h
     have hat0:=hat
     obtain⟨kp,hn,β,ϕ,sat,h0⟩:=hat
     have hev:=((zD hc sat).2 hg).1
     refine wp_cond_split (by rw[hev];rfl) (fun hb=>?_) (fun hb=>?_)
     ·exact ih (.code x :: k) S (by simp only[ksz];omega) (ht hb) a w hat0
     ·exact ih (.code y :: k) S (by simp only[ksz];omega) (hf hb) a w hat0
    ·exact h.elim
   | block id c=>
    unfold vcK at h
    simp only[csz] at hk
    exact wp_block (ih (.code c :: .blk id :: k) S (by simp only[ksz];omega) h a w hat)
   | exit id=>
    unfold vcK at h
    split at h
    ·rename_i k' hk'
     have:=zEV hk'
     exact wp_exit (zFU hk' (ih k' S (by simp only[csz] at hk;omega) h a w hat))
    ·exact h.elim
   | ret=>
    unfold vcK at h
    exact wp_ret (zHr (hC.fin _ _ _ hat h).2)
   | loop c=>
    unfold vcK at h
    exact hW _ _ h a w hat
   | _=>unfold vcK at h;exact h.elim
end
end
end Go.Proofs.YtdmbfkooebldcaaGreatDoor
