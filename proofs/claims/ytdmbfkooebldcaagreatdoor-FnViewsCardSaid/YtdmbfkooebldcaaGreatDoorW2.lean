/-
  Part 2: contracts of functions, and the laws by which they are proved.
  Conditions: none.
-/
import Derived.Test.YtdmbfkooebldcaaGreatDoorW1
set_option linter.unusedVariables false
set_option linter.unusedSimpArgs false
set_option linter.unusedSectionVars false
set_option maxRecDepth 100000
namespace Go.Proofs.YtdmbfkooebldcaaGreatDoor
section
variable [zZ]
section
variable {P:Program} {E:Env} {N:Nat} {w0:World} {X F:List Nat} {S:St} {β:Nat→GV} {ϕ:Nat→List Nat} {a:Act} {w w':World} {o:Oper} {R:RR} {A A':Hp} {B:Nat}
theorem zAm{T:PTy}{e:PV}(h:Shp T e):e.leaves.length=T.wd:=by
 unfold Shp at h
 split at h
 ·obtain⟨qs,rfl,hl⟩:=h;exact hl
 ·rename_i hT
  have h1:T.wd=1:=by cases T<;>first | rfl | exact absurd rfl (hT _)
  have h2:e.leaves.length=1:=by cases e<;>first | rfl | exact absurd rfl (h _)
  rw[h1,h2]
theorem ya{T:PTy}:∀{es:List PV},(∀e∈es,Shp T e)→(zT es).length=es.length*T.wd
 | [],_=>by simp[zT]
 | e :: es,h=>by
  have h1:=zAm (h e (by simp))
  have h2:=ya (es:=es) fun x hx=>h x (by simp[hx])
  simp only[zT,List.flatMap_cons,List.length_append,List.length_cons] at h2 ⊢
  rw[h2,h1,Nat.add_mul];omega
theorem yU(T:PTy)(n:Nat):(zX T n).length=n*T.wd:=by
 induction n with
 | zero=>simp[zX]
 | succ n ih=>
  simp only[zX,List.replicate_succ,List.flatten_cons,List.length_append] at ih ⊢
  rw[ih,Nat.add_mul]
  simp only[PTy.wd];omega
theorem yE(T:PTy)(m n:Nat):zX T (m+n)=zX T m++zX T n:=by
 simp[zX,←List.replicate_append_replicate]
theorem zGH(T:PTy):zX T 1=T.leaves:=by simp[zX]
theorem zx(x y:List PV):zT (x++y)=zT x++zT y:=by simp[zT]
theorem zHI(es:List PV){i:Nat}(hi:i < es.length):es=es.take i++es.getD i PV.d :: es.drop (i+1):=by
 have:es.getD i PV.d=es[i]:=by simp[hi]
 rw[this,List.getElem_cons_drop,List.take_append_drop]
structure LOk (w:World) (L:List PTy→List PV→List Value→List Nat→Prop):Prop where
 split:∀{T1 T2 p1 p2 vs f},L (T1++T2) (p1++p2) vs f→T1.length=p1.length→∃v1 v2 f1 f2,vs=v1++v2∧f=f1++f2∧L T1 p1 v1 f1∧L T2 p2 v2 f2
 app:∀{T1 T2 p1 p2 v1 v2 f1 f2},L T1 p1 v1 f1→L T2 p2 v2 f2→L (T1++T2) (p1++p2) (v1++v2) (f1++f2)
 lv:∀{Ts ps vs f},L Ts ps vs f→Lv w Ts ps vs f
theorem zG0(w:World):LOk w (Lv w):=⟨fun h hl=>h.split rfl rfl hl,fun h h'=>h.append h',id⟩
theorem zG1(w:World):LOk w (Lo w):=by
 refine⟨?_,?_,fun h=>h.lv⟩
 ·rintro T1 T2 p1 p2 vs f ⟨fs,rfl,h⟩ hl
  obtain⟨v1,v2,f1,f2,rfl,rfl,q1,q2⟩:=h.split rfl rfl hl
  exact⟨v1,v2,_,_,rfl,by simp,⟨f1,rfl,q1⟩,⟨f2,rfl,q2⟩⟩
 ·rintro T1 T2 p1 p2 v1 v2 f1 f2 ⟨fs,rfl,h⟩ ⟨fs',rfl,h'⟩
  exact⟨fs++fs',by simp,h.append h'⟩
theorem zEl{L:List PTy→List PV→List Value→List Nat→Prop}(hL0:LOk w L){T:PTy}{es:List PV}{cs:List Value}{f:List Nat}{i off sz:Nat}(hL:L (zX T es.length) (zT es) cs f)(hS:∀e∈es,Shp T e)(hi:i < es.length)(hle:off+sz≤T.wd) :
  ∃v1 v2 v3 g1 g2 g3,cs=v1++v2++v3∧f=g1++g2++g3∧v1.length=i*T.wd+off∧v2.length=sz ∧
   L (zX T i++T.leaves.take off) (zT (es.take i)++(es.getD i PV.d).leaves.take off) v1 g1 ∧
   L (zAw T off sz) (((es.getD i PV.d).leaves.drop off).take sz) v2 g2 ∧
   L (T.leaves.drop (off+sz)++zX T (es.length - (i+1))) ((es.getD i PV.d).leaves.drop (off+sz)++zT (es.drop (i+1))) v3 g3:=by
 have he:es.getD i PV.d∈es:=by
  have:es.getD i PV.d=es[i]:=by simp[hi]
  rw[this];exact List.getElem_mem hi
 have hel:=zAm (hS _ he)
 have hT:zX T es.length=(zX T i++T.leaves.take off)++(zAw T off sz++(T.leaves.drop (off+sz)++zX T (es.length - (i+1)))):=by
  have e1:es.length=i+(1+(es.length - (i+1))):=by omega
  rw[e1,yE,yE,zGH]
  have e2:T.leaves=T.leaves.take off++((T.leaves.drop off).take sz++T.leaves.drop (off+sz)):=by
   rw[←List.drop_drop,List.take_append_drop,List.take_append_drop]
  have e3:i+(1+(es.length - (i+1))) - (i+1)=es.length - (i+1):=by omega
  rw[e3]
  conv=>lhs;rw[e2]
  simp[zAw,List.append_assoc]
 have hP:zT es=(zT (es.take i)++(es.getD i PV.d).leaves.take off)++(((es.getD i PV.d).leaves.drop off).take sz++((es.getD i PV.d).leaves.drop (off+sz)++zT (es.drop (i+1)))):=by
  conv=>lhs;rw[zHI es hi]
  have e2:∀l:List PV,l=l.take off++((l.drop off).take sz++l.drop (off+sz)):=by
   intro l
   rw[←List.drop_drop,List.take_append_drop,List.take_append_drop]
  have e4:zT (es.take i++es.getD i PV.d :: es.drop (i+1))=zT (es.take i)++((es.getD i PV.d).leaves++zT (es.drop (i+1))):=by
   simp[zT]
  rw[e4]
  conv=>lhs;rw[e2 (es.getD i PV.d).leaves]
  simp[List.append_assoc]
 have htk:(es.take i).length=i:=by simp;omega
 have hl1:(zX T i++T.leaves.take off).length=(zT (es.take i)++(es.getD i PV.d).leaves.take off).length:=by
  have h1:=yU T i
  have h2:=ya (T:=T) (es:=es.take i) fun x hx=>hS x (List.mem_of_mem_take hx)
  simp only[List.length_append,List.length_take,h1,h2,hel,htk]
  simp only[PTy.wd]
 rw[hT,hP] at hL
 obtain⟨v1,v23,g1,g23,rfl,rfl,q1,q23⟩:=hL0.split hL hl1
 have hl2:(zAw T off sz).length=(((es.getD i PV.d).leaves.drop off).take sz).length:=by
  simp only[zAw,List.length_take,List.length_drop,hel,PTy.wd]
 obtain⟨v2,v3,g2,g3,rfl,rfl,q2,q3⟩:=hL0.split q23 hl2
 refine⟨v1,v2,v3,g1,g2,g3,by simp,by simp,?_,?_,q1,q2,q3⟩
 ·obtain⟨_,h1⟩:=(hL0.lv q1).lens
  rw[h1,←hl1,List.length_append,yU,List.length_take]
  simp only[PTy.wd] at hle ⊢
  omega
 ·obtain⟨_,h1⟩:=(hL0.lv q2).lens
  rw[h1,List.length_take,List.length_drop,hel]
  omega
theorem zEw:∀{Ts:List PTy} {ps:List PV} {vs:List Value} {f:List Nat},Lv w Ts ps vs f→zCl Ts ps:=by
 intro Ts ps vs f h
 induction h with
 | nil=>trivial
 | int h1 _ ih=>exact⟨h1,ih⟩
 | bool _ ih=>exact ih
 | str h1 _ ih=>exact⟨h1,ih⟩
 | empty _ ih=>exact⟨Nat.zero_le _,ih⟩
 | list _ _ hl _ _ _ _ ih=>exact⟨hl.1,ih⟩
theorem zG9{ts:List PTy}:zCo ts=true↔∀t∈ts,t=.bool∨t=.str∨∃k,t=.int k:=by
 induction ts with
 | nil=>simp[zCo]
 | cons t ts ih=>
  simp only[zCo,Bool.and_eq_true,ih,List.mem_cons,forall_eq_or_imp]
  have:zGI t=true↔(t=.bool∨t=.str∨∃k,t=.int k):=by cases t<;>simp[zGI]
  rw[this]
theorem zMk{T:PTy}(h:zBD T=true):∀t∈T.leaves,t=.bool∨t=.str∨∃k,t=.int k:=zG9.1 h
theorem zA7:∀{Ts:List PTy} {ps:List PV} {vs:List Value} {f:List Nat},Lv w Ts ps vs f→(∀t∈Ts,t=.bool∨t=.str∨∃k,t=.int k)→f=[]:=by
 intro Ts ps vs f h
 induction h with
 | nil=>intro _;rfl
 | int _ _ ih=>intro hh;exact ih fun t ht=>hh t (by simp[ht])
 | bool _ ih=>intro hh;exact ih fun t ht=>hh t (by simp[ht])
 | str _ _ ih=>intro hh;exact ih fun t ht=>hh t (by simp[ht])
 | empty _ _=>intro hh;have:=hh _ List.mem_cons_self;simp at this
 | list _ _ _ _ _ _ _ _=>intro hh;have:=hh _ List.mem_cons_self;simp at this
theorem yq{T:PTy}(h:zBD T=true)(n:Nat):∀t∈zX T n,t=.bool∨t=.str∨∃k,t=.int k:=by
 intro t ht
 simp only[zX,List.mem_flatten,List.mem_replicate] at ht
 obtain⟨l,⟨_,rfl⟩,hm⟩:=ht
 exact zMk h t hm
theorem zJC{O:Value→PTy→List PV→List Nat→Prop}:∀{Ts:List PTy} {ps:List PV} {vs:List Value} {f:List Nat},Lv w Ts ps vs f→(∀t∈Ts,t=.bool∨t=.str∨∃k,t=.int k)→∃fs,fs.flatten=[]∧LoP O Ts ps vs fs:=by
 intro Ts ps vs f h
 induction h with
 | nil=>intro _;exact⟨[],rfl,.nil⟩
 | int h1 _ ih=>intro hh;obtain⟨fs,h2,h3⟩:=ih fun t ht=>hh t (by simp[ht]);exact⟨[] :: fs,by simpa using h2,.int h1 h3⟩
 | bool _ ih=>intro hh;obtain⟨fs,h2,h3⟩:=ih fun t ht=>hh t (by simp[ht]);exact⟨[] :: fs,by simpa using h2,.bool h3⟩
 | str h1 _ ih=>intro hh;obtain⟨fs,h2,h3⟩:=ih fun t ht=>hh t (by simp[ht]);exact⟨[] :: fs,by simpa using h2,.str h1 h3⟩
 | empty _ _=>intro hh;have:=hh _ List.mem_cons_self;simp at this
 | list _ _ _ _ _ _ _ _=>intro hh;have:=hh _ List.mem_cons_self;simp at this
theorem zL3{v:Value}{T:PTy}{es:List PV}{f:List Nat}(hT:zBD T=true)(h:zGe w v T es f):zCG w v T es f:=by
 rcases h with h | ⟨b,f1,cs,rfl,hr,hs,hv⟩
 ·exact .inl h
 ·have h1:=zA7 hv (yq hT _)
  subst h1
  obtain⟨fs,h2,h3⟩:=zJC (O:=zJm w) hv (yq hT _)
  exact .inr ⟨b,[],cs,rfl,hr,hs,fs,h2.symm,h3⟩
theorem zJ8{v:Value}{T:PTy}{es:List PV}{f:List Nat}(h:zCG w v T es f):zGe w v T es f:=by
 rcases h with h | ⟨b,f1,cs,rfl,hr,hs,hv⟩
 ·exact .inl h
 ·exact .inr ⟨b,f1,cs,rfl,hr,hs,hv.lv⟩
theorem zOy{v:Value}{T:PTy}{es:List PV}{f:List Nat}(h:zJm w v T es f):zCG w v T es f:=zL3 h.1 h.2
theorem zOz{v:Value}{T:PTy}{es:List PV}{f:List Nat}(hT:zBD T=true)(h:zCG w v T es f):zJm w v T es f:=⟨hT,zJ8 h⟩
structure zAA (B:Nat) (F:List Nat) (A:Hp) (ϕ:Nat→List Nat) (n:Nat) (f rs:List Nat):Prop where
 dj:∀i hl,lk A i=some hl→i ∉ rs→∀b∈zH (ϕ i) hl,b ∉ f
 all:∀b∈f,b∈F∨B≤b
 bx:∀r∈rs,∀o t cs,lk A r≠some (.box o t cs)
 lt:∀r∈rs,r < n
theorem zAA.mono{f g rs:List Nat}{n:Nat}(h:zAA B F A ϕ n f rs)(hs:∀b∈g,b∈f):zAA B F A ϕ n g rs:=
 ⟨fun i hl hi hn b hb hm=>h.dj i hl hi hn b hb (hs b hm),fun b hb=>h.all b (hs b hb),h.bx,h.lt⟩
theorem zFB.congr{β':Nat→GV}{g:GV}{rs:List Nat}{T:PTy}{es:List PV}{p:Pth}(h:zFB A β w g rs T es p)(hr:∀r∈rs,lk A' r=lk A r∧β' r=β r):zFB A' β' w g rs T es p:=by
 cases p with
 | no=>trivial
 | el r i j=>
  obtain⟨h1,T',es',p',h2,h3,h4,h5,h6⟩:=h
  obtain⟨e1,e2⟩:=hr r h1
  exact⟨h1,T',es',p',e1.trans h2,h3,h4,h5,by rw[e2];exact h6⟩
 | sub r lo=>
  obtain⟨h1,es',p',h2,h3,h4,h5⟩:=h
  obtain⟨e1,e2⟩:=hr r h1
  exact⟨h1,es',p',by rw[e1];exact h2,h3,h4,by rw[e2];exact h5⟩
theorem zFw{T:PTy}{p:PV}{v:Value}{f:List Nat}(h:Lv w [T] [p] [v] f):v.oneCell'=true:=by
 cases h<;>rfl
theorem zFO{n:Nat}{rs:List Nat}{T:PTy}{es:List PV}{v:Value}{f:List Nat}{p:Pth}(hp:zL B X F A β ϕ w)(hb:Bd n β A)(hL:Lv w [.list T] [.list es] [v] f)(hv:zAA B F A ϕ n f rs)(hpt:zFB A β w (gv v) rs T es p) :
  zL B X F ((n,.arr (.vw rs) T es p) :: A) (upd β n (gv v)) (upd ϕ n f) w∧Bd (n+1) (upd β n (gv v)) ((n,.arr (.vw rs) T es p) :: A):=by
 refine⟨hp.add hb (zFw hL) hL (by simp[zH]) (fun _=>hv.all) trivial ?_ hv.dj ?_ hv.lt hv.bx,zAh hb fun r hr=>by have:=hv.lt r hr;omega⟩
 ·intro i hl hi hd b hb' hm;simp[zH] at hm
 ·exact hpt.congr fun r hr=>⟨rfl,zs _ _ _ (hv.lt r hr)⟩
theorem zAA.add{n:Nat}{rs rs':List Nat}{T:PTy}{es:List PV}{f g:List Nat}{p:Pth}{v:GV}(hb:Bd n β A)(h:zAA B F A ϕ n g rs):zAA B F ((n,.arr (.vw rs') T es p) :: A) (upd ϕ n f) (n+1) g rs:=by
 refine⟨?_,h.all,?_,fun r hr=>by have:=h.lt r hr;omega⟩
 ·intro i hl hi hn b hb'
  rw[zBC] at hi
  split at hi
  ·cases hi;simp[zH] at hb'
  ·rename_i e
   rw[zBw _ _ _ e] at hb'
   exact h.dj i hl hi hn b hb'
 ·intro r hr o t cs
  have:=h.lt r hr
  rw[zBC,if_neg (by omega)]
  exact h.bx r hr o t cs
def yh(A:Hp)(β:Nat→GV)(w:World)(rs:List Nat)(q:Nat→Pth):Nat→List PTy→List PV→List Value→Prop
 | j,.list T :: Ts,.list es :: ps,v :: vs=>zFB A β w (gv v) rs T es (q j)∧yh A β w rs q (j+1) Ts ps vs
 | j,_ :: Ts,_ :: ps,_ :: vs=>yh A β w rs q (j+1) Ts ps vs
 | _,_,_,_=>True
theorem yh.congr{β':Nat→GV}{rs:List Nat}{q:Nat→Pth}(hr:∀r∈rs,lk A' r=lk A r∧β' r=β r):∀{Ts:List PTy} {ps:List PV} {vs:List Value} {j:Nat},yh A β w rs q j Ts ps vs→yh A' β' w rs q j Ts ps vs:=by
 intro Ts
 induction Ts with
 | nil=>intro ps vs j h;simp[yh]
 | cons T Ts ih=>
  intro ps vs j h
  cases ps with
  | nil=>simp[yh]
  | cons p ps=>cases vs with
   | nil=>simp[yh]
   | cons v vs=>
    cases T<;>cases p<;>simp only[yh] at h ⊢<;>first | exact ih h | exact⟨h.1.congr hr,ih h.2⟩
theorem zFp{rs:List Nat}:∀{Ts:List PTy} {ps:List PV} {vs:List Value} {j:Nat},yh A β w rs noP j Ts ps vs:=by
 intro Ts
 induction Ts with
 | nil=>intro ps vs j;simp[yh]
 | cons T Ts ih=>
  intro ps vs j
  cases ps with
  | nil=>simp[yh]
  | cons p ps=>cases vs with
   | nil=>simp[yh]
   | cons v vs=>
    cases T<;>cases p<;>simp only[yh]<;>first | exact ih | exact⟨trivial,ih⟩
theorem zDh(rs:List Nat)(q:Nat→Pth):∀(Ts:List PTy) (ps:List PV) (vs:List Value) (f:List Nat) (j n:Nat) (A:Hp) (β:Nat→GV) (ϕ:Nat→List Nat),Lv w Ts ps vs f→zL B X F A β ϕ w→Bd n β A→zAA B F A ϕ n f rs→yh A β w rs q j Ts ps vs →
  ∃β' ϕ',zL B X F ((zB (.vw rs) q j n Ts ps).2.1++A) β' ϕ' w∧Bd (zB (.vw rs) q j n Ts ps).2.2 β' ((zB (.vw rs) q j n Ts ps).2.1++A)∧(∀k,k < n→β' k=β k) ∧
   SV.vals β' (zB (.vw rs) q j n Ts ps).1=vs∧SV.lts (zB (.vw rs) q j n Ts ps).2.2 (zB (.vw rs) q j n Ts ps).1∧SV.oks β' (zB (.vw rs) q j n Ts ps).1∧n≤(zB (.vw rs) q j n Ts ps).2.2∧(∀k,k < n→ϕ' k=ϕ k):=by
 intro Ts
 induction Ts with
 | nil=>
  intro ps vs f j n A β ϕ hL hp hb hv hq
  cases hL
  exact⟨β,ϕ,hp,hb,fun _ _=>rfl,rfl,trivial,trivial,Nat.le_refl _,fun _ _=>rfl⟩
 | cons T Ts ih=>
  intro ps vs f j n A β ϕ hL hp hb hv hq
  cases ps with
  | nil=>have:=hL.lens.1;simp at this
  | cons p ps=>
   obtain⟨v,vs',f1,f2,rfl,rfl,h1,h2⟩:=hL.cons_inv
   have scal:∀(x:SV),(zB (.vw rs) q j n (T :: Ts) (p :: ps))=(x :: (zB (.vw rs) q (j+1) n Ts ps).1,(zB (.vw rs) q (j+1) n Ts ps).2.1,(zB (.vw rs) q (j+1) n Ts ps).2.2)→yh A β w rs q (j+1) Ts ps vs'→(∀β,SV.val β x=v)→(∀m,SV.lt m x)→(∀β,SV.ok β x) →
     ∃β' ϕ',zL B X F ((zB (.vw rs) q j n (T :: Ts) (p :: ps)).2.1++A) β' ϕ' w∧Bd (zB (.vw rs) q j n (T :: Ts) (p :: ps)).2.2 β' ((zB (.vw rs) q j n (T :: Ts) (p :: ps)).2.1++A)∧(∀k,k < n→β' k=β k) ∧
      SV.vals β' (zB (.vw rs) q j n (T :: Ts) (p :: ps)).1=v :: vs'∧SV.lts (zB (.vw rs) q j n (T :: Ts) (p :: ps)).2.2 (zB (.vw rs) q j n (T :: Ts) (p :: ps)).1∧SV.oks β' (zB (.vw rs) q j n (T :: Ts) (p :: ps)).1∧n≤(zB (.vw rs) q j n (T :: Ts) (p :: ps)).2.2∧(∀k,k < n→ϕ' k=ϕ k):=by
    intro x he hq' hx hlt hok
    obtain⟨β',ϕ',a1,a2,a3,a5,a6,a7,a8,a9⟩:=ih ps vs' f2 (j+1) n A β ϕ h2 hp hb (hv.mono fun b hb=>by simp[hb]) hq'
    rw[he]
    exact⟨β',ϕ',a1,a2,a3,by simp[SV.vals,hx,a5],⟨hlt _,a6⟩,⟨hok _,a7⟩,a8,a9⟩
   cases T with
   | int k=>
    obtain⟨m,rfl,rfl,hr,rfl⟩:=h1.int_inv
    exact scal (.int k m) rfl hq (fun _=>rfl) (fun _=>trivial) (fun _=>hr)
   | bool=>
    obtain⟨m,rfl,rfl,rfl⟩:=h1.bool_inv
    exact scal (.bool m) rfl hq (fun _=>rfl) (fun _=>trivial) (fun _=>trivial)
   | str=>
    obtain⟨m,rfl,rfl,hr,rfl⟩:=h1.str_inv
    exact scal (.str m) rfl hq (fun _=>rfl) (fun _=>trivial) (fun _=>hr)
   | list T=>
    obtain⟨es,rfl⟩:∃es,p=.list es:=by cases h1<;>exact⟨_,rfl⟩
    simp only[yh] at hq
    have hv1:zAA B F A ϕ n f1 rs:=hv.mono fun b hb=>by simp[hb]
    have hv2:zAA B F A ϕ n f2 rs:=hv.mono fun b hb=>by simp[hb]
    obtain⟨c1,c2⟩:=zFO (T:=T) (es:=es) (v:=v) (p:=q j) hp hb h1 hv1 hq.1
    have hlk:∀r∈rs,lk ((n,HL.arr (.vw rs) T es (q j)) :: A) r=lk A r∧upd β n (gv v) r=β r:=fun r hr=>by
     have:=hv.lt r hr
     exact⟨by rw[zBC,if_neg (by omega)],zs _ _ _ this⟩
    obtain⟨β',ϕ',a1,a2,a3,a5,a6,a7,a8,a9⟩:=ih ps vs' f2 (j+1) (n+1) _ _ _ h2 c1 c2 (zAA.add (v:=gv v) hb hv2) (yh.congr hlk hq.2)
    refine⟨β',ϕ',?_,?_,fun k hk=>(a3 k (by omega)).trans (zs _ _ _ hk),?_,?_,?_,?_,fun k hk=>(a9 k (by omega)).trans (zs _ _ _ hk)⟩
    ·simpa[zB,PV.L,List.append_assoc] using a1
    ·simpa[zB,PV.L,List.append_assoc] using a2
    ·simp only[zB,SV.vals,SV.val,a5,a3 n (by omega),zi];rfl
    ·exact⟨by simp only[SV.lt,zB];omega,a6⟩
    ·exact⟨trivial,a7⟩
    ·simp only[zB];omega
   | agg ts=>cases h1
   | box ts=>cases h1
   | abx ts=>cases h1
   | fn f ts=>cases h1
   | opq=>cases h1
structure zIt (B:Nat) (X F:List Nat) (A':Hp) (β β':Nat→GV) (ϕ ϕ':Nat→List Nat) (w:World) (n n':Nat) (xs:List SV) (vs:List Value) (G:List Nat):Prop where
 hp:zL B X F A' β' ϕ' w
 hb:Bd n' β' A'
 bt:∀k,k < n→β' k=β k
 ft:∀k,k < n→ϕ' k=ϕ k
 vals:SV.vals β' xs=vs
 lts:SV.lts n' xs
 oks:SV.oks β' xs
 le:n≤n'
 ap:yB A' ϕ' G
theorem zQO{n:Nat}{T:PTy}{es:List PV}{v:Value}{f G:List Nat}(hp:zL B X F A β ϕ w)(hb:Bd n β A)(ho:zCG w v T es f)(hn:(f++G).Nodup)(hw:∀b∈f,(b∈X∨B≤b)∧(b∈F∨B≤b))(hd:yB A ϕ (f++G)) :
  zL B X F ((n,.arr .dp T es .no) :: A) (upd β n (gv v)) (upd ϕ n f) w∧Bd (n+1) (upd β n (gv v)) ((n,.arr .dp T es .no) :: A)∧yB ((n,.arr .dp T es .no) :: A) (upd ϕ n f) G:=by
 obtain⟨hn1,hn2,hn3⟩:=List.nodup_append.1 hn
 refine⟨hp.add hb (zFw ho.lv) ho (fun b hb=>(hw b hb).1) (fun _ b hb=>(hw b hb).2) hn1 ?_ ?_ trivial (by simp[zM]) (by simp[zM]),zAh hb trivial,?_⟩
 ·exact hd.mono fun b hb=>by simp only[zH] at hb;simp[hb]
 ·intro i hl hi _ b hb' hm
  by_cases hdd:hl=.dead
  ·subst hdd;simp[zH] at hb'
  ·exact hd i hl hi hdd b (zU b hb') (by simp[hm])
 ·refine zA4 (hd.mono fun b hb=>by simp[hb]) (fun i=>zBC A i) fun b hb hm=>hn3 b hb b hm rfl
theorem zB5(q:Nat→Pth)(hq:∀j,q j=.no):∀(Ts:List PTy) (ps:List PV) (vs:List Value) (fs:List (List Nat)) (G:List Nat) (j n:Nat) (A:Hp) (β:Nat→GV) (ϕ:Nat→List Nat),LoD w Ts ps vs fs→zL B X F A β ϕ w→Bd n β A →
  (fs.flatten++G).Nodup→(∀b∈fs.flatten,(b∈X∨B≤b)∧(b∈F∨B≤b))→yB A ϕ (fs.flatten++G) →
  ∃β' ϕ',zIt B X F ((zB .dp q j n Ts ps).2.1++A) β β' ϕ ϕ' w n (zB .dp q j n Ts ps).2.2 (zB .dp q j n Ts ps).1 vs G:=by
 intro Ts
 induction Ts with
 | nil=>
  intro ps vs fs G j n A β ϕ hL hp hb hn hw hd
  cases hL
  exact⟨β,ϕ,hp,hb,fun _ _=>rfl,fun _ _=>rfl,rfl,trivial,trivial,Nat.le_refl _,(by simpa using hd:yB A ϕ G)⟩
 | cons T Ts ih=>
  intro ps vs fs G j n A β ϕ hL hp hb hn hw hd
  have scal:∀(x:SV) (p:PV) (ps':List PV) (v:Value) (vs':List Value) (fs':List (List Nat)),ps=p :: ps'→vs=v :: vs'→fs=[] :: fs'→LoD w Ts ps' vs' fs'→(zB .dp q j n (T :: Ts) ps)=(x :: (zB .dp q (j+1) n Ts ps').1,(zB .dp q (j+1) n Ts ps').2.1,(zB .dp q (j+1) n Ts ps').2.2)→(∀β,SV.val β x=v)→(∀m,SV.lt m x)→(∀β,SV.ok β x) →
    ∃β' ϕ',zIt B X F ((zB .dp q j n (T :: Ts) ps).2.1++A) β β' ϕ ϕ' w n (zB .dp q j n (T :: Ts) ps).2.2 (zB .dp q j n (T :: Ts) ps).1 vs G:=by
   rintro x p ps' v vs' fs' rfl rfl rfl hL he hx hlt hok
   obtain⟨β',ϕ',a1,a2,a3,a4,a5,a6,a7,a8,a9⟩:=ih ps' vs' fs' G (j+1) n A β ϕ hL hp hb (by simpa using hn) (by simpa using hw) (by simpa using hd)
   rw[he]
   exact⟨β',ϕ',a1,a2,a3,a4,by simp[SV.vals,hx,a5],⟨hlt _,a6⟩,⟨hok _,a7⟩,a8,a9⟩
  cases hL with
  | int h1 hL=>exact scal (.int _ _) _ _ _ _ _ rfl rfl rfl hL rfl (fun _=>rfl) (fun _=>trivial) (fun _=>h1)
  | bool hL=>exact scal (.bool _) _ _ _ _ _ rfl rfl rfl hL rfl (fun _=>rfl) (fun _=>trivial) (fun _=>trivial)
  | str h1 hL=>exact scal (.str _) _ _ _ _ _ rfl rfl rfl hL rfl (fun _=>rfl) (fun _=>trivial) (fun _=>h1)
  | @list T es v f _ ps' vs' fs' hO hL=>
   simp only[List.flatten_cons,List.append_assoc] at hn hd hw
   obtain⟨c1,c2,c3⟩:=zQO (n:=n) hp hb hO hn (fun b hb=>hw b (by simp[hb])) hd
   obtain⟨β',ϕ',a1,a2,a3,a4,a5,a6,a7,a8,a9⟩:=ih ps' vs' fs' G (j+1) (n+1) _ _ _ hL c1 c2 (List.nodup_append.1 hn).2.1 (fun b hb=>hw b (by simp only[List.mem_append];exact .inr hb)) c3
   refine⟨β',ϕ',?_,?_,fun k hk=>(a3 k (by omega)).trans (zs _ _ _ hk),fun k hk=>(a4 k (by omega)).trans (zs _ _ _ hk),?_,?_,?_,?_,?_⟩
   ·simpa[zB,PV.L,hq,List.append_assoc] using a1
   ·simpa[zB,PV.L,hq,List.append_assoc] using a2
   ·simp only[zB,SV.vals,SV.val,a5,a3 n (by omega),zi];rfl
   ·exact⟨by simp only[SV.lt,zB];omega,a6⟩
   ·exact⟨trivial,a7⟩
   ·simp only[zB];omega
   ·simpa[zB,PV.L,hq,List.append_assoc] using a9
theorem zJT(o:Own)(q:Nat→Pth):∀{Ts:List PTy} {ps:List PV} {vs:List Value} {f:List Nat},Lv w Ts ps vs f→(∀t∈Ts,t=.bool∨t=.str∨∃k,t=.int k)→∀(j n:Nat),
  (zB o q j n Ts ps).2=([],n)∧SV.vals β (zB o q j n Ts ps).1=vs∧(∀m,SV.lts m (zB o q j n Ts ps).1)∧SV.oks β (zB o q j n Ts ps).1:=by
 intro Ts ps vs f h
 induction h with
 | nil=>intro _ j n;exact⟨rfl,rfl,fun _=>trivial,trivial⟩
 | int h1 _ ih=>
  intro hh j n
  obtain⟨a1,a2,a3,a4⟩:=ih (fun t ht=>hh t (by simp[ht])) (j+1) n
  simp only[Prod.ext_iff] at a1
  exact⟨by simp[zB,a1.1,a1.2],by simp[zB,SV.vals,SV.val,PV.I,a2],fun m=>⟨trivial,a3 m⟩,⟨h1,a4⟩⟩
 | bool _ ih=>
  intro hh j n
  obtain⟨a1,a2,a3,a4⟩:=ih (fun t ht=>hh t (by simp[ht])) (j+1) n
  simp only[Prod.ext_iff] at a1
  exact⟨by simp[zB,a1.1,a1.2],by simp[zB,SV.vals,SV.val,PV.B,a2],fun m=>⟨trivial,a3 m⟩,⟨trivial,a4⟩⟩
 | str h1 _ ih=>
  intro hh j n
  obtain⟨a1,a2,a3,a4⟩:=ih (fun t ht=>hh t (by simp[ht])) (j+1) n
  simp only[Prod.ext_iff] at a1
  exact⟨by simp[zB,a1.1,a1.2],by simp[zB,SV.vals,SV.val,PV.S,a2],fun m=>⟨trivial,a3 m⟩,⟨h1,a4⟩⟩
 | empty _ _=>intro hh;have:=hh _ List.mem_cons_self;simp at this
 | list _ _ _ _ _ _ _ _=>intro hh;have:=hh _ List.mem_cons_self;simp at this
end
end
section
variable [zZ]
section
variable {P:Program} {E:Env} {N:Nat} {w0:World} {X F:List Nat} {S:St} {β:Nat→GV} {ϕ:Nat→List Nat} {a:Act} {w w':World} {o:Oper} {R:RR} {A:Hp} {B:Nat}
theorem zBX{p:PV}(h:∀qs,p≠.agg qs):p.leaves=[p]:=by
 cases p<;>first | rfl | exact absurd rfl (h _)
theorem zC4{es:List PV}{i:Nat}(hi:i < es.length):es.getD i PV.d∈es:=by
 have:es.getD i PV.d=es[i]:=by simp[hi]
 rw[this];exact List.getElem_mem hi
theorem zNL{l:List PV}{n:Nat}(h:n < l.length):(l.drop n).take 1=[l.getD n PV.d]:=by
 have:l.getD n PV.d=l[n]:=by simp[h]
 rw[this,List.drop_eq_getElem_cons h,List.take_succ_cons,List.take_zero]
theorem zHf:∀{ts:List PTy} {k:Nat} {A:List PV},k+ts.length≤A.length→zHp k ts A=(A.drop k).take ts.length
 | [],k,A,_=>by simp[zHp]
 | t :: ts,k,A,h=>by
  simp only[List.length_cons] at h
  have e:A.getD k PV.d=A[k]:=by
   have:k < A.length:=by omega
   simp[this]
  rw[zHp,zHf (by omega),e,List.drop_eq_getElem_cons (by omega:k < A.length),List.length_cons,List.take_succ_cons]
theorem zHV{T:PTy}{es:List PV}{i off:Nat}{ti:TI}(hS:∀e∈es,Shp T e)(hi:i < es.length)(hle:off+ti.sz≤T.wd)(h1:ti.agg=false→ti.sz=1)
  (hag:zHk T ti.agg) :
  (ti.agg=true→yM T es i off ti=.agg (((es.getD i PV.d).leaves.drop off).take ti.sz))∧(ti.agg=false→[yM T es i off ti]=((es.getD i PV.d).leaves.drop off).take ti.sz):=by
 have hs:=hS _ (zC4 hi)
 have hel:=zAm hs
 have key:∀e:PV,e=es.getD i PV.d→Shp T e→e.leaves.length=T.wd→
  (ti.agg=true→yM T es i off ti=.agg ((e.leaves.drop off).take ti.sz))∧(ti.agg=false→[yM T es i off ti]=(e.leaves.drop off).take ti.sz):=by
  intro e he hs hel
  cases T with
  | agg ts=>
   obtain⟨qs,rfl,hq⟩:=hs
   simp only[PV.leaves] at hel ⊢
   constructor
   ·intro hA
    simp only[yM,hA,if_true,←he,PV.A]
    rw[zHf (by simp only[TI.sz] at hle;omega)]
    rfl
   ·intro hA
    simp only[yM,hA,Bool.false_eq_true,if_false,←he]
    rw[h1 hA,zNL (by have:=h1 hA;omega)]
    rfl
  | _=>
   constructor
   ·intro hA;simp[zHk,hA] at hag
   ·intro hA
    have h0:∀qs,e≠.agg qs:=by simpa[Shp] using hs
    have hoff:off=0:=by
     have:=h1 hA
     simp only[PTy.wd,PTy.leaves,List.length_singleton] at hle
     omega
    rw[zBX h0,h1 hA,hoff]
    simp only[yM,←he,List.drop_zero]
    rfl
 exact key _ rfl hs hel
def zFP(T:PTy)(p:PV)(x:SV)(Ts:List PTy)(ps:List PV)(xs:List SV):Prop:=
 (T=.agg Ts∧p=.agg ps∧x=.agg xs)∨(Ts=[T]∧ps=[p]∧xs=[x]∧∀ts,T≠.agg ts)
theorem zGB{T:PTy}{p:PV}{Ts:List PTy}{ps:List PV}{n j:Nat}{o:Own}{q:Nat→Pth}(h:(T=.agg Ts∧p=.agg ps)∨(Ts=[T]∧ps=[p]∧∀ts,T≠.agg ts)) :
  (z6 o q j n T p).2=(zB o q j n Ts ps).2∧zFP T p (z6 o q j n T p).1 Ts ps (zB o q j n Ts ps).1:=by
 rcases h with ⟨rfl,rfl⟩ | ⟨rfl,rfl,hne⟩
 ·exact⟨rfl,.inl ⟨rfl,rfl,rfl⟩⟩
 ·have he:z6 o q j n T p=((zB o q j n [T] [p]).1.headD .nilp,(zB o q j n [T] [p]).2.1,(zB o q j n [T] [p]).2.2):=by
   cases T<;>first | rfl | exact absurd rfl (hne _)
  obtain⟨x,hx⟩:∃x,(zB o q j n [T] [p]).1=[x]:=by
   cases T<;>simp[zB]
  rw[he]
  exact⟨rfl,.inr ⟨rfl,rfl,by simp[hx],hne⟩⟩
theorem zM0{T:PTy}{p:PV}{x:SV}{Ts ps xs}{n:Nat}(h:zFP T p x Ts ps xs)(hl:SV.lts n xs):SV.lt n x:=by
 rcases h with ⟨_,_,rfl⟩ | ⟨_,_,rfl,_⟩
 ·exact hl
 ·exact hl.1
theorem zMz{T:PTy}{p:PV}{x:SV}{Ts ps xs}(h:zFP T p x Ts ps xs)(hl:SV.oks β xs):SV.ok β x:=by
 rcases h with ⟨_,_,rfl⟩ | ⟨_,_,rfl,_⟩
 ·exact hl
 ·exact hl.1
theorem zEa{t:TypeId}{x:Operand}{ti:TI}{T:PTy}{es:List PV}{i off wd b o':Nat}{c:Array Value}{t':TypeId}{fr:Nat × Nat}{cs:List Value}{f1:List Nat}{L:List PTy→List PV→List Value→List Nat→Prop}(hL0:LOk w L)(hTk:yX P t ti)(ho:o.op=.load t x)
  (hblk:w.heap[b]?=some (.cells c t' fr)) (hS:∀e∈es,Shp T e) (hL:L (zX T es.length) (zT es) cs f1) (hc:(c.toList.drop o').take cs.length=cs)
  (hlen:off+ti.sz≤T.wd) (q2:wd=T.wd) (q3:zAw T off ti.sz=ti.leaves) (q4:i < es.length) (q5:zHk T ti.agg) (x3:a.eval x=.pointer (some ⟨b,o'+i*wd+off,none⟩)) :
  ∃v1 v2 v3 g1 g2 g3 ps,cs=v1++v2++v3∧f1=g1++g2++g3∧v1.length=i*T.wd+off∧v2.length=ti.sz∧ps=((es.getD i PV.d).leaves.drop off).take ti.sz∧L ti.leaves ps v2 g2 ∧
   L (zX T i++T.leaves.take off) (zT (es.take i)++(es.getD i PV.d).leaves.take off) v1 g1∧L (T.leaves.drop (off+ti.sz)++zX T (es.length - (i+1))) ((es.getD i PV.d).leaves.drop (off+ti.sz)++zT (es.drop (i+1))) v3 g3 ∧
   ((ti.pty=.agg ti.leaves∧yM T es i off ti=.agg ps)∨(ti.leaves=[ti.pty]∧ps=[yM T es i off ti]∧∀ts,ti.pty≠.agg ts))∧(yM T es i off ti).leaves=ps ∧
   (∀y:Nat,y < ti.sz→c[o'+(i*T.wd+off+y)]?=v2[y]?) ∧
   ∀w1,Fr w [] w1→∀(x:SV) (xs:List SV) (β:Nat→GV),zFP ti.pty (yM T es i off ti) x ti.leaves ps xs→SV.vals β xs=v2→(execOp a.eval o).run P w1=.ok (.value (SV.val β x)) w1:=by
 obtain⟨e1,e2⟩:=zHV hS q4 hlen hTk.one q5
 obtain⟨v1,v2,v3,g1,g2,g3,rfl,rfl,hl1,hl2,hL1,hL2,hL3⟩:=zEl hL0 hL hS q4 hlen
 rw[q3] at hL2
 have hLv:=hL0.lv hL2
 have hcase:(ti.pty=.agg ti.leaves∧yM T es i off ti=.agg (((es.getD i PV.d).leaves.drop off).take ti.sz))∨(ti.leaves=[ti.pty]∧((es.getD i PV.d).leaves.drop off).take ti.sz=[yM T es i off ti]∧∀ts,ti.pty≠.agg ts):=by
  cases hA:ti.agg with
  | true=>exact .inl ⟨by simp[TI.pty,hA],e1 hA⟩
  | false=>
   have h1:ti.leaves.length=1:=hTk.one hA
   obtain⟨y,hy⟩:=List.length_eq_one_iff.1 h1
   refine .inr ⟨by simp[TI.pty,hA,hy],(e2 hA).symm,?_⟩
   intro ts hts
   simp[TI.pty,hA,hy] at hts
   have:=hTk.lf y (by simp[hy])
   subst hts
   exact absurd hLv (by rw[hy];intro hh;cases hh)
 have hag:=zBz hTk
 have hsz:=yZ hTk
 have hcl:c.toList.length=c.size:=by simp
 have hdrop:(c.toList.drop (o'+i*wd+off)).take ti.sz=v2:=by
  have h1:=hc
  rw[q2]
  have h3:((c.toList.drop o').take (v1++v2++v3).length).drop (i*T.wd+off)=v2++v3:=by
   rw[h1,←hl1];simp
  rw[List.drop_take,List.drop_drop] at h3
  have h4:=congrArg (List.take ti.sz) h3
  rw[List.take_take] at h4
  have h5:min ti.sz ((v1++v2++v3).length - (i*T.wd+off))=ti.sz:=by
   simp only[List.length_append];omega
  rw[h5] at h4
  rw[←hl2] at h4 ⊢
  simp only[List.take_left] at h4
  rw[←h4]
  congr 2;omega
 have hbnd:o'+i*wd+off+ti.sz≤c.size:=by
  have h1:=congrArg List.length hdrop
  rw[hl2,List.length_take,List.length_drop,hcl] at h1
  have:=hTk.pos
  omega
 refine⟨v1,v2,v3,g1,g2,g3,_,rfl,rfl,hl1,hl2,rfl,hL2,hL1,hL3,hcase,?_,?_,?_⟩
 ·rcases hcase with ⟨_,h⟩ | ⟨_,h,_⟩
  ·rw[h];rfl
  ·rw[h,zBX]
   have:=hLv.leaves_of (yM T es i off ti) (by rw[h];simp)
   exact this
 ·intro y hy
  have:=congrArg (fun l=>l[y]?) hdrop
  simp only[List.getElem?_take,if_pos hy,List.getElem?_drop,Array.getElem?_toList] at this
  rw[←this,q2];congr 1;omega
 ·intro w1 hw1 x xs β hby hvs
  have hblk1:=(hw1.block b (Array.getElem?_eq_some_iff.1 hblk).1 (by simp)).trans hblk
  rcases hby with ⟨b1,b2,b3⟩ | ⟨b1,b2,b3,b4⟩
  ·have hA:ti.agg=true:=by
    cases hA:ti.agg with
    | true=>rfl
    | false=>
     rcases hcase with ⟨_,hc2⟩ | ⟨_,_,hc3⟩
     ·have:=e2 hA
      rw[hc2] at this
      have h7:=hLv.leaves_of (yM T es i off ti) (by rw[←this,hc2];simp)
      exact absurd hc2 (h7 _)
     ·exact absurd b1 (hc3 _)
   have hlc:=yA (P:=P) b (o'+i*wd+off) ti.sz c t' fr hblk1 hbnd
   rw[hdrop] at hlc
   simp only[execOp,ho,Instr.loadAt,Instr.sureAddr,loadVar,Sem.run_bind,Sem.run_pure,Result.andThen_ok,x3,hag,hsz,hA,if_true,hlc,b3,SV.val,hvs]
  ·have hA:ti.agg=false:=by
    cases hA:ti.agg with
    | false=>rfl
    | true=>exact absurd (by simp[TI.pty,hA]) (b4 ti.leaves)
   subst b3
   have hcell:w1.cell? ⟨b,o'+i*wd+off,none⟩=some (SV.val β x):=by
    rw[cell_of_row w1 b _ c t' fr hblk1]
    have h1:=hTk.one hA
    simp only[SV.vals] at hvs
    rw[h1,←hvs] at hdrop
    have h2:=congrArg (fun l=>l[0]?) hdrop
    simpa using h2
   simp only[execOp,ho,Instr.loadAt,Instr.sureAddr,loadVar,Sem.run_bind,Sem.run_pure,Result.andThen_ok,x3,hag,hA,Bool.false_eq_true,if_false,run_load,hcell]
theorem zDf{Ts:List PTy}{ps:List PV}{p:PV}{vs:List Value}{f:List Nat}(hL:Lv w Ts ps vs f)(hp:p.leaves=ps):zCl Ts p.leaves:=by
 rw[hp];exact zEw hL
theorem zPd{rs:List Nat}{h i b o':Nat}{T:PTy}{es:List PV}{p:Pth}{c:Array Value}{t':TypeId}{fr:Nat × Nat}(hl:lk A h=some (.arr .dp T es p))(hr:h∈rs)(q4:i < es.length)(haddr:zCF (β h).v=some (b,o'))(hblk:w.heap[b]?=some (.cells c t' fr)) :
  ∀(Ts:List PTy) (ps:List PV) (vs:List Value) (j:Nat),(∀y t,Ts[y]?=some t→T.leaves[j+y]?=some t)→(∀y q,ps[y]?=some q→(es.getD i PV.d).leaves[j+y]?=some q)→(∀y v,vs[y]?=some v→c[o'+(i*T.wd+j+y)]?=some v) →
   yh A β w rs (elP h i) j Ts ps vs:=by
 intro Ts
 induction Ts with
 | nil=>intro ps vs j _ _ _;simp[yh]
 | cons t Ts ih=>
  intro ps vs j h1 h2 h3
  cases ps with
  | nil=>simp[yh]
  | cons q ps=>cases vs with
   | nil=>simp[yh]
   | cons v vs=>
    have ih':=ih ps vs (j+1) (fun y t hy=>by have:=h1 (y+1) t (by simpa using hy);rwa[show j+(y+1)=j+1+y by omega] at this) (fun y t hy=>by have:=h2 (y+1) t (by simpa using hy);rwa[show j+(y+1)=j+1+y by omega] at this)
     (fun y t hy=>by have:=h3 (y+1) t (by simpa using hy);rwa[show o'+(i*T.wd+j+(y+1))=o'+(i*T.wd+(j+1)+y) by omega] at this)
    cases t<;>cases q<;>simp only[yh]<;>first | exact ih' | skip
    refine⟨⟨hr,T,es,p,hl,q4,by simpa using h1 0 _ rfl,by simpa using h2 0 _ rfl,b,o',c,t',fr,haddr,hblk,by simpa[gv] using h3 0 _ rfl⟩,ih'⟩
theorem zFX{h:Nat}{hl:HL}{g:List Nat}{n:Nat}(hp:zL B X F A β ϕ w)(hb:Bd n β A)(hh:lk A h=some hl)(hd:isA hl)(hs:∀b∈g,b∈ϕ h){rs:List Nat}(hrs:∀r∈zM hl,r∈rs)(hrs2:∀r∈rs,r=h∨r∈zM hl)(hown:h∈rs∨∀b∈zH (ϕ h) hl,b ∉ g)(hbx:∀o t cs,hl≠.box o t cs):zAA B F A ϕ n g rs:=by
 refine⟨?_,fun b hb'=>hp.all h hl hh hd b (hs b hb'),?_,?_⟩
 ·intro i hl' hi hn b hb' hm
  by_cases hih:i=h
  ·subst hih
   rw[hh] at hi;cases hi
   rcases hown with h1 | h1
   ·exact hn h1
   ·exact h1 b hb' hm
  ·exact hp.dj i h hl' hl hi hh hih (fun hr=>hn (hrs i hr)) (by intro e;subst e;exact hd) b hb' (hs b hm)
 ·intro r hr o t cs hc
  rcases hrs2 r hr with rfl | h1
  ·rw[hh] at hc;cases hc;exact hbx _ _ _ rfl
  ·exact hp.rt h hl hh r h1 o t cs hc
 ·intro r hr
  rcases hrs2 r hr with rfl | h1
  ·exact(hb _ _ hh).1
  ·have:=(hb _ _ hh).2
   cases hl with
   | arr o T es p=>
    cases o<;>simp only[zM,List.not_mem_nil] at h1
    exact this r h1
   | _=>simp[zM] at h1
theorem zSI{t:TypeId}{x:Operand}(hT:zAQ P E)(ho:o.op=.load t x)(hR:za E S true o=some R)(sat:Sat N w0 X F S β ϕ a w)(hob:R.ob):Snd P w0 X F S β ϕ o a w R:=by
 unfold za at hR
 rw[ho] at hR
 simp only at hR
 split at hR
 ·rename_i g' h off ti hx hti
  split at hR
  ·rename_i ow bt cs hl
   split at hR
   ·rename_i hlen
    have key:=fun hg=>zLp (P:=P) hT ho hx hti hl hlen sat hg
    obtain⟨hbd,hlt⟩:=sat.hb _ _ hl
    obtain⟨hlt1,hok1⟩:=hlt
    split at hR
    ·rename_i hA
     cases hR
     refine zR sat trivial ((key (hob rfl)).1 hA) ?_ ?_
     ·show SV.lts _ _
      rw[SV.lts_iff] at hlt1 ⊢
      exact fun y hy=>hlt1 y (List.mem_of_mem_drop (List.mem_of_mem_take hy))
     ·show SV.oks _ _
      rw[SV.oks_iff] at hok1 ⊢
      exact fun y hy=>hok1 y (List.mem_of_mem_drop (List.mem_of_mem_take hy))
    ·rename_i hA
     split at hR
     ·rename_i v hv
      cases hR
      have hm:=List.mem_of_getElem? hv
      exact zR sat trivial ((key (hob rfl)).2 (by simpa using hA) v hv) (SV.lts_iff.1 hlt1 v hm) (SV.oks_iff.1 hok1 v hm)
     ·cases hR
   ·cases hR
  ·cases hR
 ·rename_i g' h i wd off ti hx hti
  have hTk:=hT _ _ hti
  obtain⟨x1,x2⟩:=zD hx sat
  split at hR
  ·
   rename_i k T es p hl
   split at hR
   ·rename_i hoff
    obtain⟨rfl,hsz⟩:=hoff
    cases hR
    obtain⟨_,q1,q2,q3,q4,q5,q6,q7⟩:=hob
    replace x1:=x1 q1
    obtain⟨x3,bx,ox,hbx⟩:=x2 q1
    rw[zCJ hbx] at x3
    rcases sat.hp.sat _ _ hl with ⟨rfl,_⟩ | ⟨b,f1,c1,c2,hϕ,⟨⟨o',cap,c,t',fr,hv,hblk,hcap,hle,hmx,hfz,hcs⟩,hlen,hlim⟩,hc1,hS,hL⟩
    ·simp at q4
    rw[hv] at hbx
    simp only[zCF,Option.some.injEq,Prod.mk.injEq] at hbx
    obtain⟨rfl,rfl⟩:=hbx
    have hmin:min k es.length=k:=by omega
    rw[hmin] at hc1
    have hS2:∀e∈es.drop k,Shp T e:=fun e he=>hS e (List.mem_of_mem_drop he)
    have hdl:(es.drop k).length=es.length - k:=by simp
    have hgd:(es.drop k).getD (i - k) PV.d=es.getD i PV.d:=by
     simp only[List.getD_eq_getElem?_getD,List.getElem?_drop];congr 2;omega
    have hc2:(c.toList.drop (o'+k*T.wd)).take c2.length=c2:=by
     rw[←List.drop_drop]
     have h1:=congrArg (List.drop (k*T.wd)) hcs
     rw[List.drop_take,←hc1] at h1
     simp only[List.drop_left] at h1
     rw[hc1] at h1
     have e:(c1++c2).length - k*T.wd=c2.length:=by simp only[List.length_append,hc1];omega
     rwa[e] at h1
    have x4:a.eval x=.pointer (some ⟨b,(o'+k*T.wd)+(i - k)*wd+0,none⟩):=by
     rw[x3,q2]
     have:i*T.wd=k*T.wd+(i - k)*T.wd:=by rw[←Nat.add_mul];congr 1;omega
     rw[this];congr 3;omega
    have hlf:zAw T 0 ti.sz=ti.leaves:=by
     rw[hsz,zAw,List.drop_zero,←q3,PTy.wd,List.take_length]
    have hel:yM T (es.drop k) (i - k) 0 ti=yM T es i 0 ti:=by
     unfold yM;rw[hgd]
    obtain⟨v1,v2,v3,g1,g2,g3,ps,rfl,rfl,hl1,hl2,hps,hL2,hL1,hL3,hcase,hlv,hcell,hrun⟩:=zEa (zG1 w) hTk ho hblk hS2 (by rw[hdl];exact hL) hc2 (by omega) q2 hlf (by rw[hdl];omega) q6 x4
    rw[hel] at hcase hlv hrun
    obtain⟨fs2,rfl,hL2⟩:=hL2
    have hLD:LoD w ti.leaves ps v2 fs2:=hL2.mono fun v T es f _ h=>zOy h
    have hnd:(ϕ h).Nodup:=sat.hp.nd _ _ hl
    rw[hϕ] at hnd
    have hnd2:(g1++fs2.flatten++g3).Nodup:=(List.nodup_cons.1 hnd).2
    have hbn:=(List.nodup_cons.1 hnd).1
    obtain⟨m1,m2,m3⟩:=List.nodup_append.1 hnd2
    obtain⟨m4,m5,m6⟩:=List.nodup_append.1 m1
    have e3:(es.drop k).drop (i - k+1)=es.drop (i+1):=by rw[List.drop_drop];congr 1;omega
    have hnew:zOh w (i+1) (β h).v T es (b :: g3):=by
     refine .inr ⟨b,g3,c1++v1++v2,v3,rfl,⟨⟨o',cap,c,t',fr,hv,hblk,hcap,hle,hmx,hfz,by simpa[List.append_assoc] using hcs⟩,by simpa[List.append_assoc] using hlen,hlim⟩,?_,hS,?_⟩
     ·simp only[List.length_append,hc1,hl1,hl2,hsz]
      have:min (i+1) es.length=i+1:=by omega
      rw[this]
      have e:(i+1)*T.wd=k*T.wd+(i - k)*T.wd+T.wd:=by
       rw[←Nat.add_mul,Nat.add_mul,Nat.one_mul];congr 2;omega
      rw[e];omega
     ·have h8:=hL3
      rw[show T.leaves.drop (0+ti.sz)=[] by rw[hsz];simp[PTy.wd],List.nil_append,hgd,hdl,e3] at h8
      have h9:(es.getD i PV.d).leaves.drop (0+ti.sz)=[]:=by
       have:=zAm (hS _ (zC4 q4))
       rw[List.drop_eq_nil_iff];omega
      rw[h9,List.nil_append] at h8
      rw[show es.length - (i+1)=es.length - k - (i - k+1) by omega]
      exact h8
    have hst:=sat.hp.struck [h]
    have hbst:=yN sat.hb [h]
    have hG:∀bb∈ϕ h,∃i'∈[h],∃hl',lk S.A i'=some hl'∧bb∈zH (ϕ i') hl':=fun bb hbb=>⟨h,by simp,_,hl,by simpa[zH] using hbb⟩
    have ap:=zt (G:=ϕ h) sat.hp hG
    have hsubϕ:∀bb∈b :: g3,bb∈ϕ h:=by
     intro bb hbb
     rw[hϕ]
     rcases List.mem_cons.1 hbb with rfl | hbb
     ·simp
     ·simp[hbb]
    have hput:=hst.put (A':=yk (zK [h] S.A) h (.arr (.cs (i+1)) T es .no)) (n:=h) (hl0:=.arr (.cs (i+1)) T es .no) (f:=b :: g3) (fun j=>zP _ _ _) (fun hl' hi=>yY (by simp) hi) hnew
     (fun bb hbb=>sat.hp.own _ _ hl bb (by simpa[zH] using hsubϕ bb hbb)) (fun _ bb hbb=>sat.hp.all _ _ hl trivial bb (hsubϕ bb hbb))
     (by refine List.nodup_cons.2 ⟨fun hm=>hbn (by simp[hm]),m2⟩) (ap.mono fun bb hbb=>hsubϕ bb (zU bb hbb))
     (fun i' hl' hi' _ bb hbb hm=>by
      by_cases hd:hl'=.dead
      ·subst hd;simp[zH] at hbb
      ·exact ap i' hl' hi' hd bb (zU bb hbb) (hsubϕ bb hm)) trivial (fun _ _ _ e=>by cases e) (by simp[zM])
    have hbput:=zCB (A':=yk (zK [h] S.A) h (.arr (.cs (i+1)) T es .no)) hbst (fun j=>zP _ _ _) (sat.hb _ _ hl).1 (show HL.ltOk S.n β (.arr (.cs (i+1)) T es .no) from trivial)
    have hsub2:∀bb∈fs2.flatten,bb∈ϕ h:=fun bb hbb=>by rw[hϕ];simp[hbb]
    have ap2:yB (yk (zK [h] S.A) h (.arr (.cs (i+1)) T es .no)) (upd ϕ h (b :: g3)) (fs2.flatten++[]):=by
     refine zA4 (ap.mono fun bb hbb=>hsub2 bb (by simpa using hbb)) (fun j=>zP _ _ _) ?_
     intro bb hbb hm
     simp only[List.append_nil] at hm
     rcases List.mem_cons.1 hbb with rfl | hbb
     ·exact hbn (by simp[hm])
     ·exact m3 bb (by simp[hm]) bb hbb rfl
    obtain⟨β',ϕ',lay⟩:=zB5 noP (fun _=>rfl) ti.leaves ps v2 fs2 [] 0 S.n _ β _ hLD hput hbput (by simpa using m5) (fun bb hbb=>⟨sat.hp.own _ _ hl bb (by simpa[zH] using hsub2 bb hbb),sat.hp.all _ _ hl trivial bb (hsub2 bb hbb)⟩) ap2
    obtain⟨hi1,hi2⟩:=zGB (n:=S.n) (j:=0) (o:=.dp) (q:=noP) hcase
    simp only[Prod.ext_iff] at hi1
    refine⟨zDf (Lo.lv ⟨fs2,rfl,hL2⟩) hlv,_,w,β',ϕ',.inl (hrun w (Fr.refl _ _) _ _ β' hi2 lay.vals),⟨fun _=>rfl,lay.bt,?_,?_,?_,zMz hi2 lay.oks,?_,sat.fr⟩,fun _=>⟨rfl,hrun w (Fr.refl _ _) _ _ β' hi2 lay.vals,.inr fun w1 hw1=>hrun w1 hw1 _ _ β' hi2 lay.vals⟩,fun _=>Fr.refl _ _⟩
    ·rw[hi1.1];exact lay.hp
    ·rw[hi1.1,hi1.2];exact lay.hb
    ·rw[hi1.2];exact zM0 hi2 lay.lts
    ·rw[hi1.2];exact lay.le
   ·cases hR
  ·
   rename_i ow T es p hncs hl
   have hnc:∀k,ow≠.cs k:=fun k e=>hncs k (by rw[e])
   split at hR
   ·rename_i hlen
    cases hR
    obtain⟨hob1,hob2⟩:=hob
    obtain⟨q1,q2,q3,q4,q5⟩:=hob1 rfl
    replace x1:=x1 q1
    obtain⟨x3,bx,ox,hbx⟩:=x2 q1
    rw[zCJ hbx] at x3
    obtain⟨b,o',cap,c,t',fr,cs,f1,hv,hϕ,hblk,hS,hle,hL,hc⟩:=zNi (zLL sat hl hnc) (by omega)
    have haddr:zCF (β h).v=some (b,o'):=by rw[hv];rfl
    rw[haddr] at hbx
    simp only[Option.some.injEq,Prod.mk.injEq] at hbx
    obtain⟨rfl,rfl⟩:=hbx
    obtain⟨v1,v2,v3,g1,g2,g3,ps,rfl,rfl,hl1,hl2,hps,hL2,_,_,hcase,hlv,hcell,hrun⟩:=zEa (zG0 w) hTk ho hblk hS hL hc hlen q2 q3 q4 q5 x3
    have hsub:∀b'∈g2,b'∈ϕ h:=fun b' hb'=>by rw[hϕ];simp[hb']
    obtain⟨rs,hrs⟩:∃rs,zGW ow h=.vw rs:=by
     cases ow<;>first | exact⟨_,rfl⟩ | exact absurd rfl (hnc _)
    have hview:zAA w0.heap.size F S.A ϕ S.n g2 rs:=by
     refine zFX sat.hp sat.hb hl trivial hsub ?_ ?_ ?_ (by simp)
     ·cases ow<;>simp only[zGW,Own.vw.injEq] at hrs<;>subst hrs<;>simp[zM]
     ·cases ow<;>simp only[zGW,Own.vw.injEq] at hrs<;>subst hrs<;>simp[zM]<;>exact fun r hr=>.inr hr
     ·cases ow with
      | vw rs'=>right;simp[zH]
      | sh=>
       right
       intro b' hb' hm
       have:=sat.hp.nd _ _ hl b _ hϕ
       rw[hϕ] at hb'
       simp only[zH,List.take_succ_cons,List.take_zero,List.mem_singleton] at hb'
       subst hb'
       exact this (by simp[hm])
      | dp=>left;simp only[zGW,Own.vw.injEq] at hrs;subst hrs;simp
      | cs k=>exact absurd rfl (hnc k)
    have hpths:yh S.A β w rs (zIH ow h i) off ti.leaves ps v2:=by
     cases ow with
     | dp=>
      simp only[zGW,Own.vw.injEq] at hrs
      subst hrs
      refine zPd hl (by simp) q4 haddr hblk _ _ _ _ ?_ ?_ ?_
      ·intro y t hy
       rw[←q3] at hy
       simp only[zAw,List.getElem?_take,List.getElem?_drop] at hy
       split at hy
       ·exact hy
       ·cases hy
      ·intro y q hy
       rw[hps] at hy
       simp only[List.getElem?_take,List.getElem?_drop] at hy
       split at hy
       ·exact hy
       ·cases hy
      ·intro y v hy
       have hy2:y < ti.sz:=by rw[←hl2];exact(List.getElem?_eq_some_iff.1 hy).1
       rw[hcell y hy2];exact hy
     | _=>exact zFp
    obtain⟨β',ϕ',a1,a2,a3,a5,a6,a7,a8,a9⟩:=zDh rs (zIH ow h i) ti.leaves ps v2 g2 off S.n S.A β ϕ hL2 sat.hp sat.hb hview hpths
    rw[hrs]
    obtain⟨hi1,hi2⟩:=zGB (n:=S.n) (j:=off) (o:=.vw rs) (q:=zIH ow h i) hcase
    simp only[Prod.ext_iff] at hi1
    refine⟨zDf hL2 hlv,_,w,β',ϕ',.inl (hrun w (Fr.refl _ _) _ _ β' hi2 a5),⟨fun _=>rfl,a3,?_,?_,?_,zMz hi2 a7,?_,sat.fr⟩,fun _=>⟨rfl,hrun w (Fr.refl _ _) _ _ β' hi2 a5,.inr fun w1 hw1=>hrun w1 hw1 _ _ β' hi2 a5⟩,fun _=>Fr.refl _ _⟩
    ·rw[hi1.1];exact a1
    ·rw[hi1.1,hi1.2];exact a2
    ·rw[hi1.2];exact zM0 hi2 a6
    ·rw[hi1.2];exact a8
   ·cases hR
  ·
   rename_i ow T es hl
   split at hR
   ·rename_i hlen
    cases hR
    obtain⟨q1,q2,q3,q4,q5,q6⟩:=hob rfl
    replace x1:=x1 q1
    obtain⟨x3,bx,ox,hbx⟩:=x2 q1
    rw[zCJ hbx] at x3
    obtain⟨_,hS,b,t',c,hv,hϕ,hblk,hL⟩:=zAC.flat (sat.hp.sat _ _ hl) (by
     rintro rfl
     have hp:=hTk.pos
     have hw:PTy.opq.wd=1:=rfl
     have h1:off=0∧ti.sz=1:=by omega
     rw[h1.1,h1.2] at q3
     rw[←q3] at q6
     simp[zAw,PTy.leaves,zCo,zGI] at q6)
    have haddr:zCF (β h).v=some (b,0):=by rw[hv];rfl
    rw[haddr] at hbx
    simp only[Option.some.injEq,Prod.mk.injEq] at hbx
    obtain⟨rfl,rfl⟩:=hbx
    obtain⟨v1,v2,v3,g1,g2,g3,ps,hcs,hf,hl1,hl2,hps,hL2,_,_,hcase,hlv,hcell,hrun⟩:=zEa (zG0 w) hTk ho hblk hS hL (show(c.toList.drop 0).take c.toList.length=c.toList by rw[List.drop_zero,List.take_length]) hlen q2 q3 q4 q5 x3
    obtain⟨a1,a2,a3,a4⟩:=zJT (β:=β) .dp noP hL2 (zG9.1 q6) off S.n
    obtain⟨hi1,hi2⟩:=zGB (n:=S.n) (j:=off) (o:=.dp) (q:=noP) hcase
    exact zR sat (zDf hL2 hlv) (hrun w (Fr.refl _ _) _ _ β hi2 a2) (zM0 hi2 (a3 _)) (zMz hi2 a4)
   ·cases hR
  ·cases hR
 ·cases hR
end
end
section
variable [zZ]
section
variable {P:Program} {E:Env} {N:Nat} {w0:World} {X F:List Nat} {S:St} {β:Nat→GV} {ϕ:Nat→List Nat} {a:Act} {w w':World} {o:Oper} {R:RR} {A A':Hp} {B:Nat}
theorem zKu{t:PTy}{x:SV}{ob:Prop}{p:PV}(h:yS A t x=some (ob,p))(hob:ob)(hp:zL B X F A β ϕ w)(hk:SV.ok β x) :
  ∃f,Lv w [t] [p] [SV.val β x] f∧∀b∈f,∃i∈zW [x],∃hl,lk A i=some hl∧hl≠.dead∧b∈ϕ i:=by
 cases t<;>cases x<;>simp only[yS,reduceCtorEq,Option.some.injEq,Prod.mk.injEq] at h
 case int.int k k' n=>obtain⟨rfl,rfl⟩:=h;subst hob;exact⟨[],.int hk .nil,by simp⟩
 case bool.bool b=>obtain⟨rfl,rfl⟩:=h;exact⟨[],.bool .nil,by simp⟩
 case str.str l=>obtain⟨rfl,rfl⟩:=h;exact⟨[],.str hk .nil,by simp⟩
 case list.sl T i=>
  split at h
  ·cases h
  ·rename_i o T' es p hn hl
   simp only[Option.some.injEq,Prod.mk.injEq] at h
   obtain⟨rfl,rfl⟩:=h
   subst hob
   exact⟨ϕ i,zLK hp hl (fun k e=>hn k (by rw[e])),fun b hb=>⟨i,by simp[zW],_,hl,by simp,hb⟩⟩
  ·cases h
 case list.nils T=>obtain⟨rfl,rfl⟩:=h;exact⟨[],.empty .nil,by simp⟩
theorem zAk:∀{ts:List PTy} {xs:List SV} {ob:Prop} {ps:List PV},zv A ts xs=some (ob,ps)→ob→zL B X F A β ϕ w→SV.oks β xs →
  ∃f,Lv w ts ps (SV.vals β xs) f∧∀b∈f,∃i∈zW xs,∃hl,lk A i=some hl∧hl≠.dead∧b∈ϕ i
 | [],[],ob,ps,h,hob,hp,hk=>by cases h;exact⟨[],.nil,by simp⟩
 | [],x :: xs,ob,ps,h,hob,hp,hk=>by cases h
 | t :: ts,[],ob,ps,h,hob,hp,hk=>by cases h
 | t :: ts,x :: xs,ob,ps,h,hob,hp,hk=>by
  simp only[zv] at h
  split at h
  ·rename_i o1 p o2 qs h1 h2
   cases h
   obtain⟨f1,q1,q2⟩:=zKu h1 hob.1 hp hk.1
   obtain⟨f2,r1,r2⟩:=zAk h2 hob.2 hp hk.2
   refine⟨f1++f2,q1.cons r1,fun b hb=>?_⟩
   rcases List.mem_append.1 hb with hb | hb
   ·obtain⟨i,hi,e⟩:=q2 b hb
    refine⟨i,?_,e⟩
    cases x<;>simp[zW] at hi ⊢
    exact .inl hi
   ·obtain⟨i,hi,e⟩:=r2 b hb
    refine⟨i,?_,e⟩
    cases x<;>simp[zW,hi]
  ·cases h
def zBA:HL→HL→Prop
 | .arr o T es _,.arr o' T' es' _=>T=T'∧es=es'∧(∀k,o=.cs k→o'=.cs k)∧((∃k,o'=.cs k)→∃k,o=.cs k)
 | x,y=>x=y
theorem zBA.refl(x:HL):zBA x x:=by
 cases x<;>simp[zBA]
theorem zBA.trans{x y z:HL}(h:zBA x y)(h':zBA y z):zBA x z:=by
 cases x<;>cases y<;>cases z<;>simp only[zBA,reduceCtorEq] at*<;> (try exact h.trans h')
 obtain⟨rfl,rfl,a,b⟩:=h
 obtain⟨rfl,rfl,c,d⟩:=h'
 exact⟨rfl,rfl,fun k e=>c k (a k e),fun e=>b (d e)⟩
theorem zLg{L:List PTy→List PV→List Value→List Nat→Prop}(hL0:LOk w L){v v':Value}{T:PTy}{es es':List PV}{f:List Nat}{lo:Nat}(h:zGf L w v T es' f)(hlo:lo+es.length≤es'.length)(hes:es=(es'.drop lo).take es.length)(hv:subV v v' lo es.length T.wd) :
  ∃f',zGf L w v' T es f'∧(∀b∈f',b∈f)∧(f.Nodup→f'.Nodup)∧((∀b r,f=b :: r→b ∉ r)→∀b r,f'=b :: r→b ∉ r)∧f'.take 1=f.take 1:=by
 obtain⟨ad,l,cap,rfl,rfl⟩:=hv
 rcases h with ⟨rfl,rfl,a,h⟩ | ⟨b,f1,cs,rfl,⟨⟨o,cap',c,t,fr,hv,hblk,hcap,hle,hmx,hfz,hcs⟩,hlen,hlim⟩,hS,hL⟩
 ·simp only[Value.slice.injEq] at h
  obtain⟨rfl,rfl,rfl⟩:=h
  simp only[List.length_nil] at hlo
  have h0:es=[]:=List.eq_nil_of_length_eq_zero (by omega)
  have hl0:lo=0:=by omega
  subst h0;subst hl0
  exact⟨[],.inl ⟨rfl,rfl,ad,by simp⟩,by simp,by simp,by simp,rfl⟩
 ·simp only[Value.slice.injEq] at hv
  obtain⟨rfl,rfl,rfl⟩:=hv
  have e1:es'=es'.take lo++(es++es'.drop (lo+es.length)):=by
   conv=>lhs;rw[←List.take_append_drop lo es']
   congr 1
   rw[←List.drop_drop]
   conv=>lhs;rw[←List.take_append_drop es.length (es'.drop lo),←hes]
  have e2:zX T es'.length=zX T lo++(zX T es.length++zX T (es'.length - (lo+es.length))):=by
   rw[←yE,←yE];congr 1;omega
  have hP:zT es'=zT (es'.take lo)++(zT es++zT (es'.drop (lo+es.length))):=by
   conv=>lhs;rw[e1]
   rw[zx,zx]
  have l1:(zT (es'.take lo)).length=lo*T.wd:=by
   rw[ya fun x hx=>hS x (List.mem_of_mem_take hx)];simp;rw[Nat.min_eq_left (by omega)]
  have hSs:∀e∈es,Shp T e:=fun x hx=>by rw[hes] at hx;exact hS x (List.mem_of_mem_drop (List.mem_of_mem_take hx))
  have l2:(zT es).length=es.length*T.wd:=ya hSs
  rw[e2,hP] at hL
  obtain⟨v1,v23,g1,g23,rfl,rfl,q1,q23⟩:=hL0.split hL (by rw[yU,l1])
  obtain⟨v2,v3,g2,g3,rfl,rfl,q2,q3⟩:=hL0.split q23 (by rw[yU,l2])
  have k1:v1.length=lo*T.wd:=by rw[(hL0.lv q1).lens.2,l1]
  have k2:v2.length=es.length*T.wd:=by rw[(hL0.lv q2).lens.2,l2]
  have hcells:(c.toList.drop (o+lo*T.wd)).take v2.length=v2:=by
   have h3:((c.toList.drop o).take (v1++(v2++v3)).length).drop (lo*T.wd)=v2++v3:=by
    rw[hcs,←k1];simp
   rw[List.drop_take,List.drop_drop] at h3
   have h4:=congrArg (List.take v2.length) h3
   rw[List.take_take] at h4
   have h5:min v2.length ((v1++(v2++v3)).length - lo*T.wd)=v2.length:=by
    simp only[List.length_append];omega
   rw[h5] at h4
   simpa using h4
  refine⟨b :: g2,.inr ⟨b,g2,v2,rfl,⟨?_,k2,by omega⟩,hSs,q2⟩,?_,?_,?_,rfl⟩
  ·by_cases hcl:cap=lo
   ·have h0:es=[]:=List.eq_nil_of_length_eq_zero (by omega)
    subst h0
    have:v2=[]:=List.eq_nil_of_length_eq_zero (by simpa using k2)
    subst this
    exact⟨o,0,c,t,fr,by simp[hcl],hblk,by have:0*T.wd=0:=Nat.zero_mul _;omega,by simp,Nat.zero_le _,hfz,by simp⟩
   ·refine⟨o+lo*T.wd,cap - lo,c,t,fr,by rw[if_neg hcl];simp[zAc],hblk,?_,by omega,by omega,hfz,hcells⟩
    have:lo*T.wd+(cap - lo)*T.wd=cap*T.wd:=by rw[←Nat.add_mul];congr 1;omega
    omega
  ·intro x hx;simp at hx ⊢;rcases hx with rfl | hx
   ·exact .inl rfl
   ·exact .inr (.inr (.inl hx))
  ·intro hn
   obtain⟨n1,n2⟩:=List.nodup_cons.1 hn
   refine List.nodup_cons.2 ⟨fun hm=>n1 (by simp[hm]),?_⟩
   exact(List.nodup_append.1 (List.nodup_append.1 n2).2.1).1
  ·intro hn b' r' e
   cases e
   intro hm
   exact hn b _ rfl (by simp[hm])
theorem zEb{n:Nat}(hp:zL B X F A β ϕ w)(hb:Bd n β A)(h:Nat):∃ϕ',zL B X F (zIs A h) β ϕ' w∧Bd n β (zIs A h)∧(∀j hl,lk (zIs A h) j=some hl→hl≠.dead→∃hl0,lk A j=some hl0∧zBA hl hl0) ∧
  (∀j hl,lk (zIs A h) j=some hl→hl≠.dead→∀b∈ϕ' j,∃i hl0,lk A i=some hl0∧hl0≠.dead∧b∈ϕ i)∧(∀j,lk A j=none→lk (zIs A h) j=none) ∧
  (∀j t o cs,lk A j=some (.box o t cs)→lk (zIs A h) j=some (.box o t cs)∧ϕ' j=ϕ j)∧(∀j o T cs,lk A j=some (.abx o T cs)→lk (zIs A h) j=some (.abx o T cs)∧ϕ' j=ϕ j):=by
 have idle:∃ϕ',zL B X F A β ϕ' w∧Bd n β A∧(∀j hl,lk A j=some hl→hl≠.dead→∃hl0,lk A j=some hl0∧zBA hl hl0) ∧
  (∀j hl,lk A j=some hl→hl≠.dead→∀b∈ϕ' j,∃i hl0,lk A i=some hl0∧hl0≠.dead∧b∈ϕ i)∧(∀j,lk A j=none→lk A j=none) ∧
  (∀j t o cs,lk A j=some (.box o t cs)→lk A j=some (.box o t cs)∧ϕ' j=ϕ j)∧(∀j o T cs,lk A j=some (.abx o T cs)→lk A j=some (.abx o T cs)∧ϕ' j=ϕ j):=
  ⟨ϕ,hp,hb,fun j hl hj _=>⟨hl,hj,.refl _⟩,fun j hl hj hd b hb=>⟨j,hl,hj,hd,hb⟩,fun j hj=>hj,fun j t o cs hj=>⟨hj,rfl⟩,fun j o T cs hj=>⟨hj,rfl⟩⟩
 have main:∀(rs:List Nat) (T:PTy) (es:List PV) (r lo:Nat) (m:Own) (hm:m=.dp∨m=.sh) (T':PTy) (es1:List PV) (p1:Pth),lk A h=some (.arr (.vw rs) T es (.sub r lo))→lk A r=some (.arr m T' es1 p1) →
   ∃ϕ',zL B X F (yk (zK [r] A) h (.arr m T es .no)) β ϕ' w∧Bd n β (yk (zK [r] A) h (.arr m T es .no))∧(∀j hl,lk (yk (zK [r] A) h (.arr m T es .no)) j=some hl→hl≠.dead→∃hl0,lk A j=some hl0∧zBA hl hl0) ∧
   (∀j hl,lk (yk (zK [r] A) h (.arr m T es .no)) j=some hl→hl≠.dead→∀b∈ϕ' j,∃i hl0,lk A i=some hl0∧hl0≠.dead∧b∈ϕ i)∧(∀j,lk A j=none→lk (yk (zK [r] A) h (.arr m T es .no)) j=none) ∧
   (∀j t o cs,lk A j=some (.box o t cs)→lk (yk (zK [r] A) h (.arr m T es .no)) j=some (.box o t cs)∧ϕ' j=ϕ j)∧(∀j o T0 cs,lk A j=some (.abx o T0 cs)→lk (yk (zK [r] A) h (.arr m T es .no)) j=some (.abx o T0 cs)∧ϕ' j=ϕ j):=by
  intro rs T es r lo m hm T' es1 p1 hh hr
  obtain⟨h1,es',p',h2,h3,h4,h5⟩:=hp.pt _ _ hh
  have hown:(m=.dp∧zCG w (β r).v T es' (ϕ r)∧lk A r=some (.arr .dp T es' p'))∨(m=.sh∧zGe w (β r).v T es' (ϕ r)∧lk A r=some (.arr .sh T es' p')):=by
   rcases h2 with h2 | h2
   ·rw[h2] at hr;cases hr;exact .inl ⟨rfl,hp.sat _ _ h2,h2⟩
   ·rw[h2] at hr;cases hr;exact .inr ⟨rfl,hp.sat _ _ h2,h2⟩
  have hrh:r≠h:=by
   intro e;subst e
   rcases h2 with h2 | h2<;>(rw[h2] at hh;cases hh)
  obtain⟨f',o1,o2,o3,o4,o5⟩:∃f',yj w (β h) β f' (.arr m T es .no)∧(∀b∈f',b∈ϕ r)∧((ϕ r).Nodup→f'.Nodup)∧((∀b r',ϕ r=b :: r'→b ∉ r')→∀b r',f'=b :: r'→b ∉ r')∧f'.take 1=(ϕ r).take 1:=by
   rcases hown with ⟨rfl,ho,_⟩ | ⟨rfl,ho,_⟩
   ·exact zLg (zG1 w) ho h3 h4 h5
   ·exact zLg (zG0 w) ho h3 h4 h5
  have hrA:lk A r=some (.arr m T es' p'):=by rcases hown with ⟨rfl,_,h⟩ | ⟨rfl,_,h⟩<;>exact h
  have hnd:zE6 f' (.arr m T es .no):=by
   have:=hp.nd _ _ hrA
   rcases hm with rfl | rfl
   ·exact o3 this
   ·exact o4 this
  have hos:∀b∈zH f' (.arr m T es .no),b∈zH (ϕ r) (.arr m T es' p'):=by
   intro b hb
   rcases hm with rfl | rfl
   ·exact o2 b hb
   ·simp only[zH] at hb ⊢;rw[←o5];exact hb
  have ap:yB (zK [r] A) ϕ (zH (ϕ r) (.arr m T es' p')):=zt hp fun b hb=>⟨r,by simp,_,hrA,hb⟩
  have hdead:∀hl,lk (zK [r] A) h=some hl→hl=.dead:=by
   intro hl hj
   by_cases hd:hl=.dead
   ·exact hd
   ·obtain⟨e1,e2,e3⟩:=z5 hj hd
    rw[hh] at e1;cases e1
    exact absurd (by simp) (e3 r h1)
  have hput:=(hp.struck [r]).put (A':=yk (zK [r] A) h (.arr m T es .no)) (fun j=>zP _ _ _) hdead o1 (fun b hb=>hp.own _ _ hrA b (hos b hb)) (fun _ b hb=>hp.all _ _ hrA (by rcases hm with rfl | rfl<;>trivial) b (o2 b hb)) hnd (ap.mono hos)
   (fun i hl hi _ b hb hm2=>by
    by_cases hd:hl=.dead
    ·subst hd;simp[zH] at hb
    ·obtain⟨e1,e2,e3⟩:=z5 hi hd
     exact hp.dj i r hl _ e1 hrA (by simpa using e2) (by rcases hm with rfl | rfl<;>simp[zM]) (by simp) b hb (o2 b hm2))
   (by rcases hm with rfl | rfl<;>trivial) (fun _ _ _ e=>by cases e) (by rcases hm with rfl | rfl<;>simp[zM])
  have hcase:∀j hl,lk (yk (zK [r] A) h (.arr m T es .no)) j=some hl→hl≠.dead→(j=h∧hl=.arr m T es .no)∨(j≠h∧j≠r∧lk A j=some hl):=by
   intro j hl hj hd
   rw[zP] at hj
   split at hj
   ·rename_i e;cases hj;exact .inl ⟨e,rfl⟩
   ·rename_i e
    obtain⟨e1,e2,_⟩:=z5 hj hd
    exact .inr ⟨e,by simpa using e2,e1⟩
  refine⟨_,hput,zCB (yN hb _) (fun j=>zP _ _ _) (hb _ _ hh).1 (by rcases hm with rfl | rfl<;>trivial),?_,?_,?_,?_,?_⟩
  ·intro j hl hj hd
   rcases hcase j hl hj hd with ⟨rfl,rfl⟩ | ⟨_,_,e⟩
   ·refine⟨_,hh,?_⟩
    exact⟨rfl,rfl,fun k e=>(by rcases hm with rfl | rfl<;>cases e),fun⟨k,e⟩=>(by cases e)⟩
   ·exact⟨hl,e,.refl _⟩
  ·intro j hl hj hd b hb'
   rcases hcase j hl hj hd with ⟨rfl,rfl⟩ | ⟨hne,_,e⟩
   ·rw[zi] at hb';exact⟨r,_,hrA,by simp,o2 b hb'⟩
   ·rw[zBw _ _ _ hne] at hb';exact⟨j,hl,e,hd,hb'⟩
  ·intro j hj
   have:j≠h:=fun e=>by subst e;rw[hh] at hj;cases hj
   rw[zP,if_neg this,zBW,hj];rfl
  ·intro j t o cs hj
   have h6:j≠h:=fun e=>by subst e;rw[hh] at hj;cases hj
   have h7:j≠r:=fun e=>by subst e;rw[hrA] at hj;cases hj
   exact⟨by rw[zP,if_neg h6];exact zAi hj (by simpa using h7) (by simp[zM]),zBw _ _ _ h6⟩
  ·intro j o T0 cs hj
   have h6:j≠h:=fun e=>by subst e;rw[hh] at hj;cases hj
   have h7:j≠r:=fun e=>by subst e;rw[hrA] at hj;cases hj
   exact⟨by rw[zP,if_neg h6];exact zAi hj (by simpa using h7) (by simp[zM]),zBw _ _ _ h6⟩
 unfold zIs
 split
 ·rename_i rs T es r lo hh
  split
  ·rename_i T' es1 p1 hr
   exact main rs T es r lo .dp (.inl rfl) T' es1 p1 hh hr
  ·rename_i T' es1 p1 hr
   exact main rs T es r lo .sh (.inr rfl) T' es1 p1 hh hr
  ·exact idle
 ·exact idle
theorem zCQ:∀(hs:List Nat) {A:Hp} {ϕ:Nat→List Nat} {n:Nat},zL B X F A β ϕ w→Bd n β A→∃ϕ',zL B X F (yv A hs) β ϕ' w∧Bd n β (yv A hs)∧(∀j hl,lk (yv A hs) j=some hl→hl≠.dead→∃hl0,lk A j=some hl0∧zBA hl hl0) ∧
  (∀j hl,lk (yv A hs) j=some hl→hl≠.dead→∀b∈ϕ' j,∃i hl0,lk A i=some hl0∧hl0≠.dead∧b∈ϕ i)∧(∀j,lk A j=none→lk (yv A hs) j=none) ∧
  (∀j t o cs,lk A j=some (.box o t cs)→lk (yv A hs) j=some (.box o t cs)∧ϕ' j=ϕ j)∧(∀j o T cs,lk A j=some (.abx o T cs)→lk (yv A hs) j=some (.abx o T cs)∧ϕ' j=ϕ j)
 | [],A,ϕ,n,hp,hb=>⟨ϕ,hp,hb,fun j hl hj _=>⟨hl,hj,.refl _⟩,fun j hl hj hd b hb=>⟨j,hl,hj,hd,hb⟩,fun j hj=>hj,fun j t o cs hj=>⟨hj,rfl⟩,fun j o T cs hj=>⟨hj,rfl⟩⟩
 | h :: hs,A,ϕ,n,hp,hb=>by
  obtain⟨ϕ1,a1,a2,a3,a4,a5,a6,a7⟩:=zEb hp hb h
  obtain⟨ϕ2,b1,b2,b3,b4,b5,b6,b7⟩:=zCQ hs a1 a2
  refine⟨ϕ2,b1,b2,?_,?_,fun j hj=>b5 j (a5 j hj),fun j t o cs hj=>⟨(b6 j t o cs (a6 j t o cs hj).1).1,(b6 j t o cs (a6 j t o cs hj).1).2.trans (a6 j t o cs hj).2⟩,fun j o T cs hj=>⟨(b7 j o T cs (a7 j o T cs hj).1).1,(b7 j o T cs (a7 j o T cs hj).1).2.trans (a7 j o T cs hj).2⟩⟩
  ·intro j hl hj hd
   obtain⟨hl1,e1,e2⟩:=b3 j hl hj hd
   have hd1:hl1≠.dead:=by
    intro e;subst e
    cases hl<;>simp[zBA] at e2;exact hd rfl
   obtain⟨hl0,e3,e4⟩:=a3 j hl1 e1 hd1
   exact⟨hl0,e3,e2.trans e4⟩
  ·intro j hl hj hd b hb'
   obtain⟨i,hl1,e1,e2,e3⟩:=b4 j hl hj hd b hb'
   exact a4 i hl1 e1 e2 b e3
theorem zEo(hs:List Nat)(x:HL):(∀f,zH f (ze hs x)=zH f x)∧zM (ze hs x)=zM x∧(ze hs x=.dead↔x=.dead)∧(∀f,zE6 f (ze hs x)↔zE6 f x)∧(∀(w:World) g β f,yj w g β f (ze hs x)↔yj w g β f x)∧(∀o t cs,ze hs x=.box o t cs↔x=.box o t cs)∧zBA (ze hs x) x:=by
 have idle:ze hs x=x→(∀f,zH f (ze hs x)=zH f x)∧zM (ze hs x)=zM x∧(ze hs x=.dead↔x=.dead)∧(∀f,zE6 f (ze hs x)↔zE6 f x)∧(∀(w:World) g β f,yj w g β f (ze hs x)↔yj w g β f x)∧(∀o t cs,ze hs x=.box o t cs↔x=.box o t cs)∧zBA (ze hs x) x:=by
  intro e;rw[e];exact⟨fun _=>rfl,rfl,Iff.rfl,fun _=>Iff.rfl,fun _ _ _ _=>Iff.rfl,fun _ _ _=>Iff.rfl,.refl _⟩
 have no:∀rs T es p,x=.arr (.vw rs) T es p→ze hs x=.arr (.vw rs) T es .no→(∀f,zH f (ze hs x)=zH f x)∧zM (ze hs x)=zM x∧(ze hs x=.dead↔x=.dead)∧(∀f,zE6 f (ze hs x)↔zE6 f x)∧(∀(w:World) g β f,yj w g β f (ze hs x)↔yj w g β f x)∧(∀o t cs,ze hs x=.box o t cs↔x=.box o t cs)∧zBA (ze hs x) x:=by
  intro rs T es p e e'
  rw[e',e]
  exact⟨fun _=>rfl,rfl,by simp,fun _=>Iff.rfl,fun _ _ _ _=>Iff.rfl,by simp,rfl,rfl,fun k e=>(by cases e),fun⟨k,e⟩=>(by cases e)⟩
 cases x with
 | arr o T es p=>
  cases o<;>(try exact idle rfl)
  rename_i rs
  cases p with
  | no=>exact idle rfl
  | el r i j=>
   by_cases h:yw hs r=true
   ·exact no rs T es _ rfl (by simp[ze,h])
   ·exact idle (by simp[ze,h])
  | sub r lo=>
   by_cases h:yw hs r=true
   ·exact no rs T es _ rfl (by simp[ze,h])
   ·exact idle (by simp[ze,h])
 | _=>exact idle rfl
theorem zEs(x:HL):(∀f,∀b∈zH f (zk x),b∈zH f x)∧zM (zk x)=zM x∧(zk x=.dead↔x=.dead)∧(∀f,zE6 f x→zE6 f (zk x))∧(∀(w:World) g β f,yj w g β f x→yj w g β f (zk x))∧(∀o t cs,zk x=.box o t cs↔x=.box o t cs)∧zBA (zk x) x:=by
 have idle:zk x=x→(∀f,∀b∈zH f (zk x),b∈zH f x)∧zM (zk x)=zM x∧(zk x=.dead↔x=.dead)∧(∀f,zE6 f x→zE6 f (zk x))∧(∀(w:World) g β f,yj w g β f x→yj w g β f (zk x))∧(∀o t cs,zk x=.box o t cs↔x=.box o t cs)∧zBA (zk x) x:=by
  intro e;rw[e];exact⟨fun _ _ h=>h,rfl,Iff.rfl,fun _ h=>h,fun _ _ _ _ h=>h,fun _ _ _=>Iff.rfl,.refl _⟩
 cases x with
 | arr o T es p=>
  cases o<;>(try exact idle rfl)
  ·exact⟨fun f b h=>by simp[zk,zH] at h,rfl,by simp[zk],fun _ _=>trivial,fun _ _ _ _ h=>zGe.lv h,by simp[zk],rfl,rfl,fun k e=>(by cases e),fun⟨k,e⟩=>(by cases e)⟩
  ·exact⟨fun f b h=>by simp[zk,zH] at h,rfl,by simp[zk],fun _ _=>trivial,fun _ _ _ _ h=>zCG.lv h,by simp[zk],rfl,rfl,fun k e=>(by cases e),fun⟨k,e⟩=>(by cases e)⟩
 | _=>exact idle rfl
theorem zAR{hs:List Nat}{j:Nat}{hl:HL}(h:lk (zFb hs A) j=some hl):∃hl0,lk A j=some hl0∧hl=ze hs (if yw hs j then zk hl0 else hl0):=by
 rw[zAv] at h
 cases hA:lk A j with
 | none=>rw[hA] at h;cases h
 | some hl0=>rw[hA] at h;exact⟨hl0,rfl,by simpa using h.symm⟩
theorem zL.stilled(h:zL B X F A β ϕ w)(hs:List Nat):zL B X F (zFb hs A) β ϕ w:=by
 have fact:∀(j:Nat) (x:HL),(∀f,∀b∈zH f (ze hs (if yw hs j then zk x else x)),b∈zH f x)∧zM (ze hs (if yw hs j then zk x else x))=zM x∧(ze hs (if yw hs j then zk x else x)=.dead↔x=.dead) ∧
   (∀f,zE6 f x→zE6 f (ze hs (if yw hs j then zk x else x)))∧(∀(w:World) g β f,yj w g β f x→yj w g β f (ze hs (if yw hs j then zk x else x)))∧(∀o t cs,ze hs (if yw hs j then zk x else x)=.box o t cs↔x=.box o t cs):=by
  intro j x
  obtain⟨a1,a2,a3,a4,a5,a6,_⟩:=zEo hs (if yw hs j then zk x else x)
  split at a1<;>split<;>(try (exfalso;simp_all;done))
  ·obtain⟨b1,b2,b3,b4,b5,b6,_⟩:=zEs x
   rename_i hm _
   simp only[hm,if_true] at a2 a3 a4 a5 a6
   exact⟨fun f b hb=>b1 f b (by rw[a1] at hb;exact hb),a2.trans b2,a3.trans b3,fun f hn=>(a4 f).2 (b4 f hn),fun w g β f hh=>(a5 w g β f).2 (b5 w g β f hh),fun o t cs=>(a6 o t cs).trans (b6 o t cs)⟩
  ·rename_i hm _
   simp only[hm,if_false,Bool.false_eq_true] at a2 a3 a4 a5 a6
   exact⟨fun f b hb=>by rw[a1] at hb;exact hb,a2,a3,fun f hn=>(a4 f).2 hn,fun w g β f hh=>(a5 w g β f).2 hh,a6⟩
 refine⟨h.pl,?_,?_,?_,?_,?_,?_,?_⟩
 ·intro j hl hj
  obtain⟨hl0,e1,rfl⟩:=zAR hj
  exact(fact j hl0).2.2.2.2.1 _ _ _ _ (h.sat j _ e1)
 ·intro j hl hj b hb
  obtain⟨hl0,e1,rfl⟩:=zAR hj
  exact h.own j _ e1 b ((fact j hl0).1 _ b hb)
 ·intro j hl hj hd
  obtain⟨hl0,e1,rfl⟩:=zAR hj
  refine h.all j _ e1 ?_
  revert hd
  cases hl0 with
  | arr o T es p=>intro _;trivial
  | _=>by_cases hm:yw hs j=true<;>simp[hm,zk,ze,isA]
 ·intro j hl hj
  obtain⟨hl0,e1,rfl⟩:=zAR hj
  exact(fact j hl0).2.2.2.1 _ (h.nd j _ e1)
 ·intro i j hl hl' hi hj hne hnv hdd b hb
  obtain⟨hl0,e1,rfl⟩:=zAR hi
  obtain⟨hl1,e3,rfl⟩:=zAR hj
  exact h.dj i j _ _ e1 e3 hne (by rw[(fact j hl1).2.1] at hnv;exact hnv) (fun e=>hdd ((fact j hl1).2.2.1.2 e)) b ((fact i hl0).1 _ b hb)
 ·intro j hl hj
  obtain⟨hl0,e1,e2⟩:=zAR hj
  cases hl with
  | arr o T es p=>
   cases o<;>(try trivial)
   rename_i rs
   cases p with
   | no=>trivial
   | el r i j'=>
    have e3:hl0=.arr (.vw rs) T es (.el r i j')∧yw hs r=false:=by
     cases hl0 with
     | arr o' T' es' p'=>
      cases o'<;>cases p'<;>by_cases hm:yw hs j=true<;>simp only[hm,if_true,if_false,Bool.false_eq_true,zk,ze] at e2<;>(try cases e2)<;>(split at e2<;>cases e2)<;>(rename_i hr;exact⟨rfl,by simpa using hr⟩)
     | _=>by_cases hm:yw hs j=true<;>simp[hm,zk,ze] at e2
    obtain⟨rfl,hr⟩:=e3
    obtain⟨h1,T',es',p',h2,h3⟩:=h.pt j _ e1
    exact⟨h1,T',es',p',by rw[zAv,h2];simp[hr,ze],h3⟩
   | sub r lo=>
    have e3:hl0=.arr (.vw rs) T es (.sub r lo)∧yw hs r=false:=by
     cases hl0 with
     | arr o' T' es' p'=>
      cases o'<;>cases p'<;>by_cases hm:yw hs j=true<;>simp only[hm,if_true,if_false,Bool.false_eq_true,zk,ze] at e2<;>(try cases e2)<;>(split at e2<;>cases e2)<;>(rename_i hr;exact⟨rfl,by simpa using hr⟩)
     | _=>by_cases hm:yw hs j=true<;>simp[hm,zk,ze] at e2
    obtain⟨rfl,hr⟩:=e3
    obtain⟨h1,es',p',h2,h3⟩:=h.pt j _ e1
    refine⟨h1,es',p',?_,h3⟩
    rcases h2 with h2 | h2
    ·exact .inl (by rw[zAv,h2];simp[hr,ze])
    ·exact .inr (by rw[zAv,h2];simp[hr,ze])
  | box o t cs=>rw[((fact j hl0).2.2.2.2.2 o t cs).1 e2.symm] at e1;exact h.pt j _ e1
  | abx o T es=>
   have e3:hl0=.abx o T es:=by
    cases hl0 with
    | arr o' T' es' p'=>cases o'<;>cases p'<;>by_cases hm:yw hs j=true<;>simp only[hm,if_true,if_false,Bool.false_eq_true,zk,ze] at e2<;>(try cases e2)<;>(split at e2<;>cases e2)
    | _=>by_cases hm:yw hs j=true<;>simp[hm,zk,ze] at e2<;>(obtain⟨rfl,rfl,rfl⟩:=e2;rfl)
   subst e3
   exact h.pt j _ e1
  | _=>trivial
 ·intro j hl hj r hr o t cs hb
  obtain⟨hl0,e1,rfl⟩:=zAR hj
  rw[(fact j hl0).2.1] at hr
  obtain⟨hl1,e3,e4⟩:=zAR hb
  exact h.rt j _ e1 r hr o t cs (e3.trans (by rw[(((fact r hl1).2.2.2.2.2) o t cs).1 e4.symm]))
theorem zNN{n:Nat}(h:Bd n β A)(hs:List Nat):Bd n β (zFb hs A):=by
 intro j hl hj
 obtain⟨hl0,e1,rfl⟩:=zAR hj
 obtain⟨h1,h2⟩:=h j hl0 e1
 refine⟨h1,?_⟩
 cases hl0 with
 | arr o T es p=>
  cases o<;>cases p<;>by_cases hm:yw hs j=true<;>simp only[hm,if_true,if_false,Bool.false_eq_true,zk,ze]<;>(try trivial)<;>(try exact h2)<;>(try (split<;>exact h2))<;>(intro r hr;cases hr)
 | _=>by_cases hm:yw hs j=true<;>simp only[hm,if_true,if_false,Bool.false_eq_true,zk,ze]<;>exact h2
def zEi(ϕ:Nat→List Nat):List SV→List (List Nat)
 | []=>[]
 | .sl h :: xs=>ϕ h :: zEi ϕ xs
 | _ :: xs=>[] :: zEi ϕ xs
theorem y8(ϕ:Nat→List Nat):∀xs:List SV,(zEi ϕ xs).flatten=((zW xs).map ϕ).flatten
 | []=>rfl
 | x :: xs=>by
  have ih:=y8 ϕ xs
  cases x<;>simp[zEi,zW,ih]
theorem yx{ϕ':Nat→List Nat}:∀{ts:List PTy} {xs:List SV} {ob:Prop} {ps:List PV},zv A ts xs=some (ob,ps)→ob→SV.oks β xs →
  (∀h∈zW xs,∀o T es p,lk A h=some (.arr o T es p)→zCG w (β h).v T es (ϕ' h))→LoD w ts ps (SV.vals β xs) (zEi ϕ' xs)
 | [],[],ob,ps,h,hob,hk,ho=>by cases h;exact .nil
 | [],x :: xs,ob,ps,h,hob,hk,ho=>by cases h
 | t :: ts,[],ob,ps,h,hob,hk,ho=>by cases h
 | t :: ts,x :: xs,ob,ps,h,hob,hk,ho=>by
  simp only[zv] at h
  split at h
  ·rename_i o1 p o2 qs h1 h2
   cases h
   cases t<;>cases x<;>simp only[yS,reduceCtorEq,Option.some.injEq,Prod.mk.injEq] at h1
   case int.int k k' n=>obtain⟨rfl,rfl⟩:=h1;have:=hob.1;subst this;exact .int hk.1 (yx h2 hob.2 hk.2 ho)
   case bool.bool b=>obtain⟨rfl,rfl⟩:=h1;exact .bool (yx h2 hob.2 hk.2 ho)
   case str.str l=>obtain⟨rfl,rfl⟩:=h1;exact .str hk.1 (yx h2 hob.2 hk.2 ho)
   case list.sl T i=>
    split at h1
    ·cases h1
    ·rename_i o T' es p hn hl
     simp only[Option.some.injEq,Prod.mk.injEq] at h1
     obtain⟨rfl,rfl⟩:=h1
     have:=hob.1;subst this
     exact .list (ho i (by simp[zW]) _ _ _ _ hl) (yx h2 hob.2 hk.2 fun h hh=>ho h (by simp[zW,hh]))
    ·cases h1
   case list.nils T=>
    obtain⟨rfl,rfl⟩:=h1
    exact .list (.inl ⟨rfl,rfl,none,rfl⟩) (yx h2 hob.2 hk.2 ho)
  ·cases h
theorem zCP{ϕ':Nat→List Nat}:∀{ts:List PTy} {xs:List SV} {ob:Prop} {ps:List PV},zv A ts xs=some (ob,ps)→ob→SV.oks β xs →
  (∀h∈zW xs,∀o T es p,lk A h=some (.arr o T es p)→Lv w [.list T] [.list es] [(β h).v] (ϕ' h))→Lv w ts ps (SV.vals β xs) (zEi ϕ' xs).flatten
 | [],[],ob,ps,h,hob,hk,ho=>by cases h;exact .nil
 | [],x :: xs,ob,ps,h,hob,hk,ho=>by cases h
 | t :: ts,[],ob,ps,h,hob,hk,ho=>by cases h
 | t :: ts,x :: xs,ob,ps,h,hob,hk,ho=>by
  simp only[zv] at h
  split at h
  ·rename_i o1 p o2 qs h1 h2
   cases h
   cases t<;>cases x<;>simp only[yS,reduceCtorEq,Option.some.injEq,Prod.mk.injEq] at h1
   case int.int k k' n=>obtain⟨rfl,rfl⟩:=h1;have:=hob.1;subst this;exact .int hk.1 (zCP h2 hob.2 hk.2 ho)
   case bool.bool b=>obtain⟨rfl,rfl⟩:=h1;exact .bool (zCP h2 hob.2 hk.2 ho)
   case str.str l=>obtain⟨rfl,rfl⟩:=h1;exact .str hk.1 (zCP h2 hob.2 hk.2 ho)
   case list.sl T i=>
    split at h1
    ·cases h1
    ·rename_i o T' es p hn hl
     simp only[Option.some.injEq,Prod.mk.injEq] at h1
     obtain⟨rfl,rfl⟩:=h1
     have:=hob.1;subst this
     exact(ho i (by simp[zW]) _ _ _ _ hl).cons (zCP h2 hob.2 hk.2 fun h hh=>ho h (by simp[zW,hh]))
    ·cases h1
   case list.nils T=>
    obtain⟨rfl,rfl⟩:=h1
    exact(Lv.empty .nil).cons (zCP h2 hob.2 hk.2 ho)
  ·cases h
theorem zEe{α:Type}{f:Nat→List α}:∀{l:List Nat},l.Nodup→(∀i∈l,(f i).Nodup)→(∀i∈l,∀j∈l,i≠j→∀b∈f i,b ∉ f j)→(l.map f).flatten.Nodup
 | [],_,_,_=>by simp
 | x :: l,h,h1,h2=>by
  simp only[List.map_cons,List.flatten_cons]
  rw[List.nodup_cons] at h
  refine List.nodup_append.2 ⟨h1 x (by simp),zEe h.2 (fun i hi=>h1 i (by simp[hi])) (fun i hi j hj=>h2 i (by simp[hi]) j (by simp[hj])),?_⟩
  intro b hb c hc e
  subst e
  simp only[List.mem_flatten,List.mem_map] at hc
  obtain⟨_,⟨j,hj,rfl⟩,hc⟩:=hc
  exact h2 x (by simp) j (by simp[hj]) (fun e=>h.1 (e ▸ hj)) b hb hc
theorem zMr(hp:zL B X F A β ϕ w){hs:List Nat}(h1:∀h∈hs,dpB A h=true)(h2:hs.Nodup):(hs.map ϕ).flatten.Nodup:=by
 refine zEe h2 (fun i hi=>?_) (fun i hi j hj hne b hb=>?_)
 ·obtain⟨T,es,p,e⟩:=zCq.1 (h1 i hi)
  exact hp.nd _ _ e
 ·obtain⟨T,es,p,e⟩:=zCq.1 (h1 i hi)
  obtain⟨T',es',p',e'⟩:=zCq.1 (h1 j hj)
  exact hp.dj i j _ _ e e' hne (by simp[zM]) (by simp) b (by simpa[zH] using hb)
structure zQQ (B:Nat) (X F:List Nat) (A A':Hp) (β:Nat→GV) (ϕ':Nat→List Nat) (w:World) (n:Nat) (o':Own) (hs:List Nat):Prop where
 hp:zL B X F A' β ϕ' w
 hb:Bd n β A'
 lk:∀j hl,lk A' j=some hl→hl≠.dead→∃hl0,Go.Proofs.YtdmbfkooebldcaaGreatDoor.lk A j=some hl0∧zBA hl hl0
 inb:∀b∈(hs.map ϕ').flatten,b < w.heap.size
 how:(o'=.dp∧(∀h∈hs,∀o T es p,Go.Proofs.YtdmbfkooebldcaaGreatDoor.lk A h=some (.arr o T es p)→zCG w (β h).v T es (ϕ' h))∧(hs.map ϕ').flatten.Nodup∧yB A' ϕ' (hs.map ϕ').flatten∧(∀b∈(hs.map ϕ').flatten,(b∈X∨B≤b)∧(b∈F∨B≤b))) ∨
  (o'=.sh∧(∀h∈hs,∀o T es p,Go.Proofs.YtdmbfkooebldcaaGreatDoor.lk A h=some (.arr o T es p)→Lv w [.list T] [.list es] [(β h).v] (ϕ' h))∧(∀i hl,Go.Proofs.YtdmbfkooebldcaaGreatDoor.lk A' i=some hl→∀b∈zH (ϕ' i) hl,b ∉ (hs.map ϕ').flatten)∧(∀b∈(hs.map ϕ').flatten,b∈F∨B≤b))
theorem zNR{hs:List Nat}:zRe A hs→∀h∈hs,∃T es p,lk A h=some (.arr .dp T es p)∨lk A h=some (.arr (.vw []) T es p):=by
 induction hs with
 | nil=>intro _ h hh;cases hh
 | cons x r ih=>
  intro h y hy
  obtain⟨h1,h2⟩:=h
  rcases List.mem_cons.1 hy with rfl | hy
  ·split at h1
   ·rename_i T es p e;exact⟨_,_,_,.inl e⟩
   ·rename_i T es p e;exact⟨_,_,_,.inr e⟩
   ·exact h1.elim
  ·exact ih h2 y hy
theorem zEq{n:Nat}{o:Own}{hs:List Nat}(hp:zL B X F A β ϕ w)(hb:Bd n β A)(ho:o=.dp∨o=.sh)(hok:zGm o A hs):∃ϕ',zQQ B X F A (zBi o A hs).2 β ϕ' w n (zBi o A hs).1 hs:=by
 cases hs with
 | nil=>
  simp only[zBi,zF9,if_true]
  refine⟨ϕ,hp,hb,fun j hl hj _=>⟨hl,hj,.refl _⟩,by simp,?_⟩
  rcases ho with rfl | rfl
  ·exact .inl ⟨rfl,by simp,by simp,fun _ _ _ _ _ _=>by simp,by simp⟩
  ·exact .inr ⟨rfl,by simp,by simp,by simp⟩
 | cons x r=>
  obtain⟨ϕ1,a1,a2,a3,_⟩:=zCQ (x :: r) hp hb
  have share:zRe (yv A (x :: r)) (x :: r)→∃ϕ',zQQ B X F A (zFb (x :: r) (yv A (x :: r))) β ϕ' w n .sh (x :: r):=by
   intro hsh
   have hst:=a1.stilled (x :: r)
   have hin:∀h∈x :: r,∃T es p,lk (zFb (x :: r) (yv A (x :: r))) h=some (.arr (.vw []) T es p)∧∃o p',lk (yv A (x :: r)) h=some (.arr o T es p'):=by
    intro h hh
    have hm:yw (x :: r) h=true:=yK.2 hh
    obtain⟨T,es,p,e | e⟩:=zNR hsh h hh
    ·exact⟨T,es,.no,by rw[zAv,e];simp[hm,zk,ze],_,_,e⟩
    ·cases p with
     | no=>exact⟨T,es,.no,by rw[zAv,e];simp[hm,zk,ze],_,_,e⟩
     | el r' i j=>
      by_cases h2:yw (x :: r) r'=true
      ·exact⟨T,es,.no,by rw[zAv,e];simp[hm,zk,ze,h2],_,_,e⟩
      ·exact⟨T,es,_,by rw[zAv,e];simp only[Option.map_some,hm,if_true,zk,ze,h2];rfl,_,_,e⟩
     | sub r' i=>
      by_cases h2:yw (x :: r) r'=true
      ·exact⟨T,es,.no,by rw[zAv,e];simp[hm,zk,ze,h2],_,_,e⟩
      ·exact⟨T,es,_,by rw[zAv,e];simp only[Option.map_some,hm,if_true,zk,ze,h2];rfl,_,_,e⟩
   refine⟨ϕ1,hst,zNN a2 _,?_,?_,.inr ⟨rfl,?_,?_,?_⟩⟩
   ·intro j hl hj hd
    obtain⟨hl0,e1,rfl⟩:=zAR hj
    have h0:zBA (ze (x :: r) (if yw (x :: r) j then zk hl0 else hl0)) hl0:=by
     refine(zEo _ _).2.2.2.2.2.2.trans ?_
     split
     ·exact(zEs _).2.2.2.2.2.2
     ·exact .refl _
    have hd0:hl0≠.dead:=by
     intro e;subst e
     apply hd
     split<;>rfl
    obtain⟨hl1,e2,e3⟩:=a3 j hl0 e1 hd0
    exact⟨hl1,e2,h0.trans e3⟩
   ·intro b hb'
    simp only[List.mem_flatten,List.mem_map] at hb'
    obtain⟨_,⟨h,hh,rfl⟩,hm⟩:=hb'
    obtain⟨T',es',p',e1,_⟩:=hin h hh
    exact hst.inb e1 (by simp) b hm
   ·intro h hh o T es p hA
    obtain⟨T',es',p',e1,o2,p2,e2⟩:=hin h hh
    obtain⟨hl1,e3,e4⟩:=a3 h _ e2 (by simp)
    rw[hA] at e3;cases e3
    obtain⟨rfl,rfl,_⟩:=e4
    exact hst.sat _ _ e1
   ·intro i hl hi b hb' hm
    simp only[List.mem_flatten,List.mem_map] at hm
    obtain⟨_,⟨h,hh,rfl⟩,hm⟩:=hm
    obtain⟨T',es',p',e1,_⟩:=hin h hh
    by_cases hih:i=h
    ·subst hih;rw[e1] at hi;cases hi;simp[zH] at hb'
    ·exact hst.dj i h _ _ hi e1 hih (by simp[zM]) (by simp) b hb' hm
   ·intro b hb'
    simp only[List.mem_flatten,List.mem_map] at hb'
    obtain⟨_,⟨h,hh,rfl⟩,hm⟩:=hb'
    obtain⟨T',es',p',e1,_⟩:=hin h hh
    exact hst.all _ _ e1 trivial b hm
  rcases ho with rfl | rfl
  ·simp only[zBi,zGm,zF9,Bool.false_eq_true,if_false] at hok ⊢
   by_cases hc:(zAX (yv A (x :: r)) (x :: r)&&ndB (x :: r))=true
   ·rw[if_pos hc]
    simp only[Bool.and_eq_true] at hc
    have hdp:=zAW.1 hc.1
    have hnd:=zHT.1 hc.2
    have hin:∀h∈x :: r,∃T es p,lk (yv A (x :: r)) h=some (.arr .dp T es p):=fun h hh=>zCq.1 (hdp h hh)
    refine⟨ϕ1,a1.struck _,yN a2 _,?_,?_,.inl ⟨rfl,?_,zMr a1 hdp hnd,?_,?_⟩⟩
    ·intro j hl hj hd;exact a3 j hl (z5 hj hd).1 hd
    ·intro b hb'
     simp only[List.mem_flatten,List.mem_map] at hb'
     obtain⟨_,⟨h,hh,rfl⟩,hm⟩:=hb'
     obtain⟨T',es',p',e1⟩:=hin h hh
     exact a1.inb e1 (by simp) b hm
    ·intro h hh o T es p hA
     obtain⟨T',es',p',e1⟩:=hin h hh
     obtain⟨hl1,e3,e4⟩:=a3 h _ e1 (by simp)
     rw[hA] at e3;cases e3
     obtain⟨rfl,rfl,_⟩:=e4
     exact a1.sat _ _ e1
    ·refine zt a1 fun b hb'=>?_
     simp only[List.mem_flatten,List.mem_map] at hb'
     obtain⟨_,⟨h,hh,rfl⟩,hm⟩:=hb'
     obtain⟨T',es',p',e1⟩:=hin h hh
     exact⟨h,hh,_,e1,hm⟩
    ·intro b hb'
     simp only[List.mem_flatten,List.mem_map] at hb'
     obtain⟨_,⟨h,hh,rfl⟩,hm⟩:=hb'
     obtain⟨T',es',p',e1⟩:=hin h hh
     exact⟨a1.own _ _ e1 b hm,a1.all _ _ e1 trivial b hm⟩
   ·rw[if_neg hc] at hok ⊢
    exact share hok
  ·simp only[zBi,zGm,zF9,Bool.false_eq_true,if_false] at hok ⊢
   exact share hok
theorem zO3{Ts:List PTy}{ps:List PV}{vs:List Value}{fs:List (List Nat)}(h:LoD w Ts ps vs fs)(hT:zBY Ts=true):LoP (zJm w) Ts ps vs fs:=by
 induction h with
 | nil=>exact .nil
 | int h1 _ ih=>simp only[zBY,Bool.and_eq_true] at hT;exact .int h1 (ih hT.2)
 | bool _ ih=>simp only[zBY,Bool.and_eq_true] at hT;exact .bool (ih hT.2)
 | str h1 _ ih=>simp only[zBY,Bool.and_eq_true] at hT;exact .str h1 (ih hT.2)
 | list h1 _ ih=>
  simp only[zBY,Bool.and_eq_true] at hT
  exact .list (zOz hT.1 h1) (ih hT.2)
theorem zB3{ts:List PTy}:zBY ts=true↔∀t∈ts,zJE t=true:=by
 induction ts with
 | nil=>simp[zBY]
 | cons t ts ih=>simp[zBY,ih]
end
end
section
variable [zZ]
section
variable {P:Program} {E:Env} {N:Nat} {w0:World} {X F:List Nat} {S:St} {β:Nat→GV} {ϕ:Nat→List Nat} {a:Act} {w w':World} {o:Oper} {R:RR} {A A':Hp} {B:Nat}
theorem yf(b t:Nat)(fr:Nat × Nat):∀(vs:List Value) (off i:Nat) (c:Array Value) (w:World),w.heap[b]?=some (.cells c t fr)→off+i+vs.length≤c.size →
  (∀j,j < c.size→¬(fr.1≤j∧j < fr.2))→(∀v∈vs,v.oneCell'=true) →
  ∃w',(storeCells ⟨b,off,none⟩ vs i).run P w=.ok () w'∧w'.heap[b]?=some (.cells (c.toList.take (off+i)++vs++c.toList.drop (off+i+vs.length)).toArray t fr) ∧
   (∀k,k≠b→w'.heap[k]?=w.heap[k]?)∧w'.os=w.os∧w'.tape=w.tape∧w'.output=w.output∧w'.heap.size=w.heap.size
 | [],off,i,c,w,h,hl,hf,h1=>by
  refine⟨w,rfl,?_,fun _ _=>rfl,rfl,rfl,rfl,rfl⟩
  rw[h];simp
 | v :: vs,off,i,c,w,h,hl,hf,h1=>by
  simp only[List.length_cons] at hl
  have hlt:off+i < c.size:=by omega
  have hcell:w.cell? ⟨b,off+i,none⟩=some c[off+i]:=by rw[cell_of_row w b _ c t fr h];simp[hlt]
  have hfz:w.frozen? ⟨b,off+i,none⟩=false:=by
   have:=hf (off+i) hlt
   simp only[World.frozen?,h]
   simp only[Bool.and_eq_false_iff,decide_eq_false_iff_not]
   omega
  have hrun:(store ((⟨b,off,none⟩:Addr).add i) v).run P w=.ok () (w.setCell ⟨b,off+i,none⟩ v):=by
   rw[zAc,run_store P w _ v _ (h1 v (by simp)),hcell,hfz];simp
  have hheap:(w.setCell ⟨b,off+i,none⟩ v).heap[b]?=some (.cells (c.setIfInBounds (off+i) v) t fr):=by
   simp[World.setCell,Array.getElem?_modify,h]
  have hoth:∀k,k≠b→(w.setCell ⟨b,off+i,none⟩ v).heap[k]?=w.heap[k]?:=by
   intro k hk;simp[World.setCell,Array.getElem?_modify,Ne.symm hk]
  obtain⟨w',r1,r2,r3,r4,r5,r6,r7⟩:=yf b t fr vs off (i+1) (c.setIfInBounds (off+i) v) _ hheap (by simp;omega) (by simpa using hf) (fun u hu=>h1 u (by simp[hu]))
  refine⟨w',?_,?_,fun k hk=>(r3 k hk).trans (hoth k hk),r4,r5,r6,?_⟩
  ·simp only[storeCells,Sem.run_bind,hrun,Result.andThen_ok,r1]
  ·rw[r2]
   congr 3
   have e1:(c.setIfInBounds (off+i) v).toList=c.toList.set (off+i) v:=by simp
   rw[e1]
   have e2:(c.toList.set (off+i) v).take (off+(i+1))=c.toList.take (off+i)++[v]:=by
    rw[show off+(i+1)=(off+i)+1 by omega,List.take_succ_eq_append_getElem (by simpa using hlt)]
    simp[List.take_set_of_le]
   have e3:(c.toList.set (off+i) v).drop (off+(i+1)+vs.length)=c.toList.drop (off+i+(v :: vs).length):=by
    rw[List.drop_set_of_lt (by omega)]
    congr 1;simp;omega
   rw[e2,e3];simp
  ·rw[r7];simp[World.setCell]
theorem zEr{T:PTy}{es:List PV}{i off:Nat}{ps:List PV}(hS:∀e∈es,Shp T e)(hi:i < es.length)(hle:off+ps.length≤T.wd)(hps:∀p∈ps,∀qs,p≠.agg qs)(hpos:0 < ps.length) :
  zT (yd T es i off ps)=(zT (es.take i)++(es.getD i PV.d).leaves.take off)++(ps++((es.getD i PV.d).leaves.drop (off+ps.length)++zT (es.drop (i+1)))) ∧
  (∀e∈yd T es i off ps,Shp T e)∧(yd T es i off ps).length=es.length:=by
 have hs:=hS _ (zC4 hi)
 have key:∃e',yd T es i off ps=es.set i e'∧Shp T e'∧e'.leaves=(es.getD i PV.d).leaves.take off++ps++(es.getD i PV.d).leaves.drop (off+ps.length):=by
  have hel:=zAm hs
  cases T with
  | agg ts=>
   obtain⟨qs,hq,hql⟩:=hs
   simp only[PTy.wd,PTy.leaves] at hle
   have e1:zHp 0 (ts.take off) qs=qs.take off:=by
    rw[zHf (by simp;omega),List.length_take,Nat.min_eq_left (by omega),List.drop_zero]
   have e2:zHp (off+ps.length) (ts.drop (off+ps.length)) qs=qs.drop (off+ps.length):=by
    rw[zHf (by simp;omega),List.length_drop,List.take_of_length_le (by simp;omega)]
   refine⟨.agg (qs.take off++ps++qs.drop (off+ps.length)),?_,⟨_,rfl,?_⟩,?_⟩
   ·simp only[yd,hq,PV.A,e1,e2]
   ·simp only[List.length_append,List.length_take,List.length_drop,hql];omega
   ·rw[hq];rfl
  | _=>
   simp only[PTy.wd,PTy.leaves,List.length_singleton] at hle
   obtain⟨p,rfl⟩:=List.length_eq_one_iff.1 (show ps.length=1 by omega)
   have hoff:off=0:=by simp at hle;exact hle
   subst hoff
   have h0:=hps p (by simp)
   refine⟨p,rfl,by simpa[Shp] using h0,?_⟩
   have h1:∀qs,es.getD i PV.d≠.agg qs:=by simpa only[Shp] using hs
   rw[zBX h0,zBX h1];rfl
 obtain⟨e',he,hse,hle'⟩:=key
 have hset:es.set i e'=es.take i++e' :: es.drop (i+1):=by
  rw[List.set_eq_take_append_cons_drop,if_pos hi]
 rw[he]
 refine⟨?_,?_,by simp⟩
 ·rw[hset]
  have:zT (es.take i++e' :: es.drop (i+1))=zT (es.take i)++(e'.leaves++zT (es.drop (i+1))):=by simp[zT]
  rw[this,hle'];simp[List.append_assoc]
 ·intro e hm
  rcases List.mem_or_eq_of_mem_set hm with h | h
  ·exact hS e h
  ·rw[h];exact hse
theorem zGG{T:PTy}{n i off sz:Nat}(hi:i < n)(hle:off+sz≤T.wd):zX T n=(zX T i++T.leaves.take off)++(zAw T off sz++(T.leaves.drop (off+sz)++zX T (n - (i+1)))):=by
 have e1:n=i+(1+(n - (i+1))):=by omega
 rw[e1,yE,yE,zGH]
 have e2:T.leaves=T.leaves.take off++((T.leaves.drop off).take sz++T.leaves.drop (off+sz)):=by
  rw[←List.drop_drop,List.take_append_drop,List.take_append_drop]
 have e3:i+(1+(n - (i+1))) - (i+1)=n - (i+1):=by omega
 rw[e3]
 conv=>lhs;rw[e2]
 simp[zAw,List.append_assoc]
theorem Fr.step{w0:World}{X:List Nat}(h:Fr w0 X w)(os:w'.os=w.os)(tape:w'.tape=w.tape)(output:w'.output=w.output)(size:w.heap.size≤w'.heap.size){b:Nat}(hb:b∈X∨w0.heap.size≤b)
  (hf:∀k,k < w.heap.size→k≠b→w'.heap[k]?=w.heap[k]?):Fr w0 X w':=
 ⟨os.trans h.os,tape.trans h.tape,output.trans h.output,Nat.le_trans h.size size,fun k hk hn=>by
  rw[hf k (Nat.lt_of_lt_of_le hk h.size) (fun e=>by subst e;rcases hb with hb | hb;exact hn hb;omega)]
  exact h.block k hk hn⟩
theorem zBU{x:SV}(h:SV.ok β x):SV.oks β x.cells:=by
 cases x<;>first | exact h | exact⟨h,trivial⟩
theorem zFx{n:Nat}{x:SV}(h:SV.lt n x):SV.lts n x.cells:=by
 cases x<;>first | exact h | exact⟨h,trivial⟩
theorem zJF{xs:List SV}:zA6 xs=true↔∀x∈xs,x.leafB=true:=by
 induction xs with
 | nil=>simp[zA6]
 | cons x xs ih=>simp[zA6,ih]
theorem zJu(pl:∀h,(β h).v.oneCell'=true){xs:List SV}(h:zA6 xs=true):∀v∈SV.vals β xs,v.oneCell'=true:=by
 intro v hv
 rw[SV.vals_map,List.mem_map] at hv
 obtain⟨x,hx,rfl⟩:=hv
 exact zLa pl x (zJF.1 h x hx)
theorem zCO{t:TypeId}{x y:Operand}{ti:TI}{v:SV}{b t' at_:Nat}{c:Array Value}{fr:Nat × Nat}(hTk:yX P t ti)(ho:o.op=.store t x y)(x3:a.eval x=.pointer (some ⟨b,at_,none⟩))(y3:a.eval y=SV.val β v)(pl:∀h,(β h).v.oneCell'=true)
  (hcl:v.cells.length=ti.sz) (hlf:zA6 v.cells=true) (hblk:w.heap[b]?=some (.cells c t' fr)) (hfit:at_+ti.sz≤c.size) (hfz:∀i,i < c.size→¬(fr.1≤i∧i < fr.2)) :
  ∃w',(execOp a.eval o).run P w=.ok .skip w'∧w'.heap[b]?=some (.cells (c.toList.take at_++SV.vals β v.cells++c.toList.drop (at_+ti.sz)).toArray t' fr) ∧
   (∀k,k≠b→w'.heap[k]?=w.heap[k]?)∧w'.os=w.os∧w'.tape=w.tape∧w'.output=w.output∧w'.heap.size=w.heap.size:=by
 have hvl:(SV.vals β v.cells).length=ti.sz:=by simp[SV.vals_map,hcl]
 obtain⟨w',r1,r2,r3,r4,r5,r6,r7⟩:=yf (P:=P) b t' fr (SV.vals β v.cells) at_ 0 c w hblk (by omega) hfz (zJu pl hlf)
 refine⟨w',?_,?_,r3,r4,r5,r6,r7⟩
 ·have hsz:=yZ hTk w
  have hcl2:=zCb pl v
  simp only[execOp,ho,Instr.storeAt,Instr.sureAddr,storeVar,Sem.run_bind,Sem.run_pure,Result.andThen_ok,x3,y3,hcl2,hsz]
  simp[hvl,r1]
 ·rw[r2,hvl];rfl
theorem Fr.store{b:Nat}(h:Fr w0 X w)(os:w'.os=w.os)(tape:w'.tape=w.tape)(output:w'.output=w.output)(size:w'.heap.size=w.heap.size)(hb:b∈X∨w0.heap.size≤b)(hf:∀k,k≠b→w'.heap[k]?=w.heap[k]?):Fr w0 X w':=
 h.step os tape output (Nat.le_of_eq size.symm) hb fun k _ hk=>hf k hk
theorem zQI(l m r vs:List Value){off:Nat}(h:off+vs.length≤m.length):(l++m++r).take (l.length+off)++vs++(l++m++r).drop (l.length+off+vs.length)=l++(m.take off++vs++m.drop (off+vs.length))++r:=by
 have e1:(l++m++r).take (l.length+off)=l++m.take off:=by
  rw[List.append_assoc,List.take_append,List.take_of_length_le (by omega),Nat.add_sub_cancel_left,List.take_append_of_le_length (by omega)]
 have e2:(l++m++r).drop (l.length+off+vs.length)=m.drop (off+vs.length)++r:=by
  rw[List.append_assoc,Nat.add_assoc,←List.drop_drop,List.drop_left,List.drop_append_of_le_length (by omega)]
 rw[e1,e2];simp[List.append_assoc]
theorem zL.setBox(h:zL B X F A β ϕ w){n i t:Nat}{cs cs':List SV}(hb:Bd n β A)(hi:lk A i=some (.box true t cs))(hcs:SV.lts n cs'∧SV.oks β cs')
  (hw:yj w' (β i) β (ϕ i) (.box true t cs')) (hf:∀k,k ∉ ϕ i→w'.heap[k]?=w.heap[k]?):zL B X F (yk A i (.box true t cs')) β ϕ w'∧Bd n β (yk A i (.box true t cs')):=by
 have h1:=h.redo (A':=yk (zK [i] A) i (.box true t cs')) (f:=ϕ i) (hl0:=.box true t cs') (fun j=>zP _ _ _) hi hw (fun b hb'=>.inl (by simpa[zH] using hb')) (fun k _ hk=>hf k (by simpa[zH] using hk)) trivial (by simp) (by simp[zM]) (by simp) (fun _=>trivial) (fun o t' cs e=>by cases e;exact⟨_,_,rfl⟩)
 have hid:upd ϕ i (ϕ i)=ϕ:=by funext k;unfold upd;split<;>simp_all
 rw[hid] at h1
 have hlk:∀j,lk (yk (zK [i] A) i (.box true t cs')) j=lk (yk A i (.box true t cs')) j:=by
  intro j
  rw[zP,zP]
  split
  ·rfl
  ·rename_i hne
   cases hj:lk A j with
   | none=>rw[zBW,hj];rfl
   | some hl=>
    refine zAi hj (by simpa using hne) fun r hr hm=>?_
    simp only[List.mem_singleton] at hm
    subst hm
    exact h.rt j hl hj _ hr _ _ _ hi
 refine⟨⟨h1.pl,?_,?_,?_,?_,?_,?_,?_⟩,zCB hb (fun j=>zP _ _ _) (hb _ _ hi).1 hcs⟩
 ·intro j hl hj;exact h1.sat j hl (by rw[hlk];exact hj)
 ·intro j hl hj;exact h1.own j hl (by rw[hlk];exact hj)
 ·intro j hl hj;exact h1.all j hl (by rw[hlk];exact hj)
 ·intro j hl hj;exact h1.nd j hl (by rw[hlk];exact hj)
 ·intro j k hl hl' hj hk;exact h1.dj j k hl hl' (by rw[hlk];exact hj) (by rw[hlk];exact hk)
 ·intro j hl hj
  have:=h1.pt j hl (by rw[hlk];exact hj)
  cases hl with
  | arr o T es p=>
   cases o<;>(try trivial)
   exact zFB.congr this fun r _=>⟨(hlk r).symm,rfl⟩
  | box _ _ _=>exact this
  | abx _ _ _=>exact this
  | _=>trivial
 ·intro j hl hj r hr o t cs hc;exact h1.rt j hl (by rw[hlk];exact hj) r hr o t cs (by rw[hlk];exact hc)
theorem zPU{t:TypeId}{x y:Operand}(hT:zAQ P E)(ho:o.op=.store t x y)(hR:za E S true o=some R)(sat:Sat N w0 X F S β ϕ a w)(hob:R.ob):Snd P w0 X F S β ϕ o a w R:=by
 unfold za at hR
 rw[ho] at hR
 simp only at hR
 split at hR
 ·rename_i g' h off g'' v ti hx hy hti
  split at hR
  ·rename_i bt cs hl
   split at hR
   ·rename_i hlen
    cases hR
    obtain⟨_,q2,q3,q4,q5,hd⟩:=hob
    obtain⟨x1,x2⟩:=zD hx sat
    replace x1:=x1 q2
    obtain⟨x3,b,oo,hb⟩:=x2 q2
    obtain⟨y1,y2⟩:=zD hy sat
    replace y1:=y1 q3
    obtain⟨y3,y4⟩:=y2 q3
    obtain⟨b',bt',hb',hϕ,hold⟩:=sat.hp.sat _ _ hl
    rw[hb] at hb'
    simp only[Value.pointer.injEq,Option.some.injEq,Addr.mk.injEq,and_true] at hb'
    obtain⟨rfl,rfl⟩:=hb'
    simp only[SV.val,hb] at x3
    obtain⟨hlt,hlo⟩:=sat.hb _ _ hl
    obtain⟨β',ϕ',a1,a2,a3,a4,a5,a6,a7,a8,a9,a10⟩:=zBK ti.leaves v.cells S.n S.A β ϕ sat.hp sat.hb (zFx y1) (zBU y4)
    have hTk:=hT _ _ hti
    have hcs:(SV.vals β cs).length=cs.length:=by simp[SV.vals_map]
    have hvl:(SV.vals β v.cells).length=ti.sz:=by simp[SV.vals_map,q4]
    obtain⟨w',r1,r2,r3,r4,r5,r6,r7⟩:=zCO (P:=P) hTk ho x3 y3 sat.hp.pl q4 q5 hold (by simp[hcs];omega) (by simp)
    have hl1:lk ((zAf S.n ti.leaves v.cells).2.1++S.A) h=some (.box true bt cs):=by rw[a10 h hlt];exact hl
    have hcs':SV.vals β' cs=SV.vals β cs:=SV.vals_congr a3 cs hlo.1
    have hnew:SV.vals β' (cs.take off++(zAf S.n ti.leaves v.cells).1++cs.drop (off+ti.sz))=(SV.vals β cs).take off++SV.vals β v.cells++(SV.vals β cs).drop (off+ti.sz):=by
     rw[←hcs',←a5];simp[SV.vals_map,List.map_take,List.map_drop]
    have hb1:b∈X∨w0.heap.size≤b:=sat.hp.own _ _ hl b (by simp[zH,hϕ])
    have zSd:SV.lts (zAf S.n ti.leaves v.cells).2.2 (cs.take off++(zAf S.n ti.leaves v.cells).1++cs.drop (off+ti.sz)):=by
     rw[SV.lts_iff]
     have c1:=SV.lts_iff.1 (SV.lts_mono a8 cs hlo.1)
     have c2:=SV.lts_iff.1 a6
     intro z hz
     simp only[List.mem_append] at hz
     rcases hz with (hz | hz) | hz
     ·exact c1 z (List.mem_of_mem_take hz)
     ·exact c2 z hz
     ·exact c1 z (List.mem_of_mem_drop hz)
    have hoks:SV.oks β' (cs.take off++(zAf S.n ti.leaves v.cells).1++cs.drop (off+ti.sz)):=by
     rw[SV.oks_iff]
     have c1:=SV.oks_iff.1 (SV.oks_congr a3 cs hlo.1 hlo.2)
     have c2:=SV.oks_iff.1 a7
     intro z hz
     simp only[List.mem_append] at hz
     rcases hz with (hz | hz) | hz
     ·exact c1 z (List.mem_of_mem_take hz)
     ·exact c2 z hz
     ·exact c1 z (List.mem_of_mem_drop hz)
    obtain⟨h2,h3⟩:=a1.setBox (w':=w') a2 hl1 ⟨zSd,hoks⟩ (by
     rw[a3 h hlt,a4 h hlt]
     refine⟨b,bt',hb,hϕ,?_⟩
     rw[r2,hnew,←hvl,List.toList_toArray,zQI _ _ _ _ (by rw[hcs,hvl];exact hlen)]) (fun k hk=>r3 k (by rw[a4 h hlt,hϕ] at hk;simpa using hk))
    exact⟨trivial,undef,w',β',ϕ',.inr ⟨r1,rfl⟩,⟨fun hh=>absurd hd hh,a3,h2,h3,trivial,trivial,a8,sat.fr.store r4 r5 r6 r7 hb1 r3⟩,fun h=>by simp[zAJ,zAn,ho] at h,fun h=>by simp[zEF,ho] at h⟩
   ·cases hR
  ·cases hR
 ·rename_i g' h i wd off g'' v ti hx hy hti
  have hTk:=hT _ _ hti
  split at hR
  ·rename_i ow T es p hl
   split at hR
   ·rename_i hlen
    split at hR
    ·rename_i obr ps hres
     cases hR
     obtain⟨_,q2,q3,q4,q5,q6,q7,q8,q9,q10,q11,hd,q12,q13,q14⟩:=hob
     subst q5
     obtain⟨x1,x2⟩:=zD hx sat
     replace x1:=x1 q2
     obtain⟨x3,bx,ox,hbx⟩:=x2 q2
     rw[zCJ hbx] at x3
     obtain⟨y1,y2⟩:=zD hy sat
     replace y1:=y1 q3
     obtain⟨y3,y4⟩:=y2 q3
     have hoks:=zBU y4
     have how:ow=.dp∨ow=.sh:=by cases ow<;>simp[zSP] at q8<;>simp
     obtain⟨ϕ1,tk⟩:=zEq sat.hp sat.hb how q12
     generalize hA1:(zBi ow S.A (zW v.cells)).2=A1 at *
     generalize ho1:(zBi ow S.A (zW v.cells)).1=o1 at *
     have hl1:∃p1,lk A1 h=some (.arr ow T es p1):=by
      cases hk:lk A1 h with
      | none=>rw[hk] at q14;cases ow<;>simp[zLn] at q14
      | some hl1=>
       rw[hk] at q14
       have hal:hl1≠.dead→zBA hl1 (.arr ow T es p):=fun hne=>by
        obtain⟨hl0,e1,e2⟩:=tk.lk h hl1 hk hne
        rw[hl] at e1;cases e1;exact e2
       cases ow<;>cases hl1<;>simp only[zLn] at q14
       all_goals (rename_i oo TT ee pp;cases oo<;>simp only[zLn] at q14;obtain⟨rfl,rfl,_⟩:=hal (by simp);exact⟨_,rfl⟩)
     obtain⟨p1,hl1⟩:=hl1
     have hcl:v.cells.length=ti.sz:=by
      have h1:∀{ts:List PTy} {xs:List SV} {ob:Prop} {ps:List PV},zv S.A ts xs=some (ob,ps)→xs.length=ts.length:=by
       intro ts
       induction ts with
       | nil=>intro xs ob ps h;cases xs<;>simp[zv] at h ⊢
       | cons t ts ih=>
        intro xs ob ps h
        cases xs with
        | nil=>simp[zv] at h
        | cons x xs=>
         simp only[zv] at h
         split at h
         ·rename_i h2;simp[ih h2]
         ·cases h
      exact h1 hres
     have hvl:(SV.vals β v.cells).length=ti.sz:=by simp[SV.vals_map,hcl]
     have hdata:zBY ti.leaves=true:=by
      rw[zB3];intro t' ht'
      rw[←q6] at ht'
      exact zB3.1 q9 t' (List.mem_of_mem_drop (List.mem_of_mem_take ht'))
     have core:∀(L:World→List PTy→List PV→List Value→List Nat→Prop),(∀w,LOk w (L w))→(∀w w' Ts ps vs f,L w Ts ps vs f→(∀b∈f,w'.heap[b]?=w.heap[b]?)→L w' Ts ps vs f)→zGf (L w) w (β h).v T es (ϕ1 h)→L w ti.leaves ps (SV.vals β v.cells) (zEi ϕ1 v.cells).flatten →
       (∀b r,ϕ1 h=b :: r→b ∉ r∧b ∉ (zEi ϕ1 v.cells).flatten) →
       ∃w' b f',ϕ1 h=b :: f'∧(execOp a.eval o).run P w=.ok .skip w'∧(∀k,k≠b→w'.heap[k]?=w.heap[k]?)∧w'.os=w.os∧w'.tape=w.tape∧w'.output=w.output∧w'.heap.size=w.heap.size ∧
        ∃g1 g2 g3,f'=g1++g2++g3∧zGf (L w') w' (β h).v T (yd T es i off ps) (b :: (g1++(zEi ϕ1 v.cells).flatten++g3)):=by
      intro L hLk hLf hown hnv hbn
      rcases hown with ⟨rfl,_⟩ | ⟨b,f1,cs,hϕ,⟨⟨o',cap,c,t',fr,hv,hblk,hcap,hle,hmx,hfz,hcs⟩,hlen1,hlim⟩,hS,hL⟩
      ·simp at q7
      rw[hv] at hbx
      simp only[zCF,Option.some.injEq,Prod.mk.injEq] at hbx
      obtain⟨rfl,rfl⟩:=hbx
      obtain⟨v1,v2,v3,g1,g2,g3,rfl,rfl,hl1',hl2,hL1,hL2,hL3⟩:=zEl (hLk w) hL hS q7 hlen
      obtain⟨hbn1,hbn2⟩:=hbn _ _ hϕ
      have hct:∃pre post,c.toList=pre++(v1++v2++v3)++post∧pre.length=o':=by
       have h2:=congrArg List.length hcs
       rw[List.length_take,List.length_drop] at h2
       simp only[Array.length_toList,List.length_append] at h2
       refine⟨c.toList.take o',c.toList.drop (o'+(v1++v2++v3).length),?_,?_⟩
       ·conv=>lhs;rw[←List.take_append_drop o' c.toList,←List.take_append_drop (v1++v2++v3).length (c.toList.drop o'),hcs,List.drop_drop]
        simp only[List.append_assoc]
       ·have:=hTk.pos
        rw[List.length_take,Array.length_toList];omega
      obtain⟨pre,post,hct,hpre⟩:=hct
      have hsz:c.size=pre.length+(v1.length+v2.length+v3.length)+post.length:=by
       have:=congrArg List.length hct
       simpa[List.length_append,Nat.add_assoc] using this
      obtain⟨w',r1,r2,r3,r4,r5,r6,r7⟩:=zCO (P:=P) (β:=β) (v:=v) hTk ho x3 y3 sat.hp.pl hcl q11 hblk (by omega) hfz.1
      obtain⟨s1,s2,s3⟩:=zEr (off:=off) (ps:=ps) hS q7 (by rw[←(((hLk w).lv hnv).lens).1];exact hlen) (((hLk w).lv hnv).leaves_of) (by rw[←(((hLk w).lv hnv).lens).1];exact hTk.pos)
      have hpl:ps.length=ti.sz:=(((hLk w).lv hnv).lens).1.symm
      refine⟨w',b,_,hϕ,r1,r3,r4,r5,r6,r7,g1,g2,g3,rfl,.inr ⟨b,_,v1++SV.vals β v.cells++v3,rfl,⟨⟨o',cap,_,t',fr,by rw[s3];exact hv,r2,?_,by rw[s3];exact hle,hmx,?_,?_⟩,?_,by rw[s3];exact hlim⟩,s2,?_⟩⟩
      ·simp only[List.size_toArray,List.length_append,List.length_take,List.length_drop,Array.length_toList,hvl];omega
      ·refine hfz.cast ?_
       simp only[List.size_toArray,List.length_append,List.length_take,List.length_drop,Array.length_toList,hvl];omega
      ·rw[List.toList_toArray,hct]
       have e0:o'+i*T.wd+off=pre.length+v1.length:=by omega
       have e1:(pre++(v1++v2++v3)++post).take (o'+i*T.wd+off)=pre++v1:=by
        rw[e0,←List.length_append]
        have:pre++(v1++v2++v3)++post=(pre++v1)++(v2++v3++post):=by simp
        rw[this,List.take_left]
       have e2:(pre++(v1++v2++v3)++post).drop (o'+i*T.wd+off+ti.sz)=v3++post:=by
        rw[e0,←hl2]
        have:pre++(v1++v2++v3)++post=(pre++v1++v2)++(v3++post):=by simp
        rw[this,show pre.length+v1.length+v2.length=(pre++v1++v2).length by simp[Nat.add_assoc],List.drop_left]
       rw[e1,e2]
       have e3:pre++v1++SV.vals β v.cells++(v3++post)=pre++((v1++SV.vals β v.cells++v3)++post):=by simp
       rw[e3,←hpre,List.drop_left,List.take_left]
      ·rw[s3,←hlen1];simp only[List.length_append,hvl,hl2]
      ·have hfr:∀{Ts ps vs f},L w Ts ps vs f→(∀x∈f,x≠b)→L w' Ts ps vs f:=fun hh hx=>hLf w w' _ _ _ _ hh fun x hxm=>r3 x (hx x hxm)
       have h4:=(hLk w').app (hfr hL1 (fun x hx e=>hbn1 (by subst e;simp[hx]))) ((hLk w').app (hfr hnv (fun x hx e=>hbn2 (by subst e;exact hx))) (hfr hL3 (fun x hx e=>hbn1 (by subst e;simp[hx]))))
       rw[s3,s1,hpl,zGG q7 hlen,q6]
       simpa[List.append_assoc] using h4
     have hst:=tk.hp.struck [h]
     have hbst:=yN tk.hb [h]
     have finish:∀(ob:Prop) (w':World) (b:Nat) (g1 g2 g3:List Nat),ϕ1 h=b :: (g1++g2++g3)→(execOp a.eval o).run P w=.ok .skip w'→(∀k,k≠b→w'.heap[k]?=w.heap[k]?)→w'.os=w.os→w'.tape=w.tape→w'.output=w.output→w'.heap.size=w.heap.size →
       (∀k,o1≠.cs k)→(∀rs,o1≠.vw rs)→yj w' (β h) β (b :: (g1++(zEi ϕ1 v.cells).flatten++g3)) (.arr o1 T (yd T es i off ps) .no)→b∈zH (ϕ1 h) (.arr ow T es p1)→zE6 (b :: (g1++(zEi ϕ1 v.cells).flatten++g3)) (.arr o1 T (yd T es i off ps) .no) →
       yB (zK [h] A1) ϕ1 (zH (b :: (g1++(zEi ϕ1 v.cells).flatten++g3)) (.arr o1 T (yd T es i off ps) .no))→(∀i' hl',lk (zK [h] A1) i'=some hl'→∀bb∈zH (ϕ1 i') hl',bb ∉ (zEi ϕ1 v.cells).flatten) →
       (∀bb∈zH (b :: (g1++(zEi ϕ1 v.cells).flatten++g3)) (.arr o1 T (yd T es i off ps) .no),bb∈X∨w0.heap.size≤bb)→(∀bb∈(zEi ϕ1 v.cells).flatten,bb∈F∨w0.heap.size≤bb) →
       Snd P w0 X F S β ϕ o a w ⟨True,ob,.nilp,yk (zK [h] A1) h (.arr o1 T (yd T es i off ps) .no),S.n⟩:=by
      intro ob w' b g1 g2 g3 hϕ r1 r3 r4 r5 r6 r7 ho1 ho2 hsat hbo hnd hap hdj hX hF
      have hbap:yB (zK [h] A1) ϕ1 [b]:=zt tk.hp fun bb hbb=>by
       simp only[List.mem_singleton] at hbb;subst hbb
       exact⟨h,by simp,_,hl1,hbo⟩
      have hw:zL w0.heap.size X F (zK [h] A1) β ϕ1 w':=hst.world fun i' hl' hi' hd' bb hbb=>r3 bb fun e=>hbap i' hl' hi' hd' bb hbb (by simp[e])
      have hmem:∀bb∈b :: (g1++(zEi ϕ1 v.cells).flatten++g3),bb∈ϕ1 h∨bb∈(zEi ϕ1 v.cells).flatten:=by
       intro bb hbb
       rw[hϕ]
       simp only[List.mem_cons,List.mem_append] at hbb ⊢
       rcases hbb with hbb | (hbb | hbb) | hbb
       ·exact .inl (.inl hbb)
       ·exact .inl (.inr (.inl (.inl hbb)))
       ·exact .inr hbb
       ·exact .inl (.inr (.inr hbb))
      have hput:=hw.put (A':=yk (zK [h] A1) h (.arr o1 T (yd T es i off ps) .no)) (n:=h) (fun j=>zP _ _ _) (fun hl' hi=>yY (by simp) hi) hsat hX
       (fun _ bb hbb=>by
        rcases hmem bb hbb with h1 | h1
        ·exact tk.hp.all _ _ hl1 trivial bb h1
        ·exact hF bb h1) hnd hap
       (fun i' hl' hi' _ bb hbb hm=>by
        by_cases hd':hl'=.dead
        ·subst hd';simp[zH] at hbb
        ·obtain⟨e1,e2,e3⟩:=z5 hi' hd'
         rcases hmem bb hm with h1 | h1
         ·refine tk.hp.dj i' h hl' _ e1 hl1 (by simpa using e2) ?_ (by simp) bb hbb h1
          rcases how with rfl | rfl<;>simp[zM]
         ·exact hdj i' hl' hi' bb hbb h1)
       (by cases o1<;>first | trivial | exact absurd rfl (ho2 _)) (fun _ _ _ e=>by cases e)
       (by cases o1<;>first | exact absurd rfl (ho2 _) | simp[zM])
      refine⟨trivial,undef,w',β,_,.inr ⟨r1,rfl⟩,⟨fun hh=>absurd hd hh,fun _ _=>rfl,hput,zCB hbst (fun j=>zP _ _ _) (sat.hb _ _ hl).1 (by cases o1<;>first | trivial | exact absurd rfl (ho2 _)),trivial,trivial,Nat.le_refl _,sat.fr.store r4 r5 r6 r7 (tk.hp.own _ _ hl1 b hbo) r3⟩,fun h=>by simp[zAJ,zAn,ho] at h,fun h=>by simp[zEF,ho] at h⟩
     have hndh:=tk.hp.nd _ _ hl1
     rcases tk.how with ⟨e1,e2,e3,e4,e5⟩ | ⟨e1,e2,e3,e4⟩
     ·
      have how2:ow=.dp:=by
       rcases how with h1 | h1
       ·exact h1
       ·subst h1
        rw[←ho1] at e1
        simp only[zBi] at e1
        split at e1<;>cases e1
      subst how2
      subst e1
      rw[←y8] at e3 e4 e5
      have hLD:=yx hres q4 hoks (ϕ':=ϕ1) e2
      have hLo:Lo w ti.leaves ps (SV.vals β v.cells) (zEi ϕ1 v.cells).flatten:=⟨_,rfl,zO3 hLD hdata⟩
      have hsep:∀bb∈ϕ1 h,bb ∉ (zEi ϕ1 v.cells).flatten:=fun bb hbb=>e4 h _ hl1 (by simp) bb hbb
      obtain⟨w',b,f',hϕ,r1,r3,r4,r5,r6,r7,g1,g2,g3,rfl,hnew⟩:=core Lo zG1 (fun w w' _ _ _ _ hh hf=>hh.frame hf) (tk.hp.sat _ _ hl1) hLo (fun b r hb=>⟨by
       have:(ϕ1 h).Nodup:=hndh
       rw[hb] at this;exact(List.nodup_cons.1 this).1,hsep b (by rw[hb];simp)⟩)
      have hnd2:(b :: (g1++g2++g3)).Nodup:=by have:(ϕ1 h).Nodup:=hndh;rwa[hϕ] at this
      obtain⟨n1,n2⟩:=List.nodup_cons.1 hnd2
      obtain⟨n3,n4,n5⟩:=List.nodup_append.1 n2
      obtain⟨n6,n7,n8⟩:=List.nodup_append.1 n3
      have hsub:∀bb∈g1++g2++g3,bb∈ϕ1 h:=fun bb hbb=>by rw[hϕ];exact List.mem_cons_of_mem _ hbb
      refine finish _ w' b g1 g2 g3 hϕ r1 r3 r4 r5 r6 r7 (by simp) (by simp) hnew (by simp[zH,hϕ]) ?_ ?_ ?_ ?_ ?_
      ·refine List.nodup_cons.2 ⟨?_,List.nodup_append.2 ⟨List.nodup_append.2 ⟨n6,e3,?_⟩,n4,?_⟩⟩
       ·intro hm
        simp only[List.mem_append] at hm
        rcases hm with (hm | hm) | hm
        ·exact n1 (by simp[hm])
        ·exact hsep b (by rw[hϕ];simp) hm
        ·exact n1 (by simp[hm])
       ·intro x hx y hy e;subst e;exact hsep x (hsub x (by simp[hx])) hy
       ·intro x hx y hy e;subst e
        rcases List.mem_append.1 hx with hx | hx
        ·exact n5 x (by simp[hx]) x hy rfl
        ·exact hsep x (hsub x (by simp[hy])) hx
      ·have hap1:yB (zK [h] A1) ϕ1 (ϕ1 h):=zt tk.hp fun bb hbb=>⟨h,by simp,_,hl1,by simpa[zH] using hbb⟩
       intro i' hl' hi' hd' bb hbb hm
       simp only[zH,List.mem_cons,List.mem_append] at hm
       rcases hm with rfl | (hm | hm) | hm
       ·exact hap1 i' hl' hi' hd' _ hbb (by rw[hϕ];simp)
       ·exact hap1 i' hl' hi' hd' _ hbb (hsub _ (by simp[hm]))
       ·exact e4 i' hl' (z5 hi' hd').1 hd' bb hbb hm
       ·exact hap1 i' hl' hi' hd' _ hbb (hsub _ (by simp[hm]))
      ·intro i' hl' hi' bb hbb hm
       by_cases hd':hl'=.dead
       ·subst hd';simp[zH] at hbb
       ·exact e4 i' hl' (z5 hi' hd').1 hd' bb (zU bb hbb) hm
      ·intro bb hbb
       simp only[zH,List.mem_cons,List.mem_append] at hbb
       rcases hbb with rfl | (hm | hm) | hm
       ·exact tk.hp.own _ _ hl1 _ (by simp[zH,hϕ])
       ·exact tk.hp.own _ _ hl1 _ (by simpa[zH] using hsub _ (by simp[hm]))
       ·exact(e5 bb hm).1
       ·exact tk.hp.own _ _ hl1 _ (by simpa[zH] using hsub _ (by simp[hm]))
      ·exact fun bb hbb=>(e5 bb hbb).2
     ·
      subst e1
      rw[←y8] at e3 e4
      have hLv:=zCP hres q4 hoks (ϕ':=ϕ1) e2
      have hown:zGe w (β h).v T es (ϕ1 h):=by
       have:=tk.hp.sat _ _ hl1
       rcases how with rfl | rfl
       ·exact zJ8 this
       ·exact this
      have hbh:∀b r,ϕ1 h=b :: r→b∈zH (ϕ1 h) (.arr ow T es p1):=by
       intro b r hb;rw[hb];rcases how with rfl | rfl<;>simp[zH]
      have hbn:∀b r,ϕ1 h=b :: r→b ∉ r:=by
       intro b r hb
       rcases how with rfl | rfl
       ·have:(ϕ1 h).Nodup:=hndh
        rw[hb] at this;exact(List.nodup_cons.1 this).1
       ·exact hndh b r hb
      obtain⟨w',b,f',hϕ,r1,r3,r4,r5,r6,r7,g1,g2,g3,rfl,hnew⟩:=core Lv zG0 (fun w w' _ _ _ _ hh hf=>hh.frame hf) hown hLv (fun b r hb=>⟨hbn b r hb,e3 h _ hl1 b (hbh b r hb)⟩)
      refine finish _ w' b g1 g2 g3 hϕ r1 r3 r4 r5 r6 r7 (by simp) (by simp) hnew (hbh _ _ hϕ) ?_ ?_ ?_ ?_ e4
      ·intro b' r' e
       cases e
       intro hm
       simp only[List.mem_append] at hm
       rcases hm with (hm | hm) | hm
       ·exact hbn _ _ hϕ (by simp[hm])
       ·exact e3 h _ hl1 b (hbh _ _ hϕ) hm
       ·exact hbn _ _ hϕ (by simp[hm])
      ·refine zt tk.hp fun bb hbb=>?_
       simp only[zH,List.take_succ_cons,List.take_zero,List.mem_singleton] at hbb
       subst hbb
       exact⟨h,by simp,_,hl1,hbh _ _ hϕ⟩
      ·intro i' hl' hi' bb hbb hm
       by_cases hd':hl'=.dead
       ·subst hd';simp[zH] at hbb
       ·exact e3 i' hl' (z5 hi' hd').1 bb hbb hm
      ·intro bb hbb
       simp only[zH,List.take_succ_cons,List.take_zero,List.mem_singleton] at hbb
       subst hbb
       exact tk.hp.own _ _ hl1 _ (hbh _ _ hϕ)
    ·cases hR
   ·cases hR
  ·
   rename_i T es hl
   split at hR
   ·rename_i hlen
    split at hR
    ·rename_i obr ps hres
     cases hR
     obtain⟨_,q2,q3,q4,q5,q6,q7,q9,q10,q11,hd⟩:=hob
     subst q5
     obtain⟨x1,x2⟩:=zD hx sat
     replace x1:=x1 q2
     obtain⟨x3,bx,ox,hbx⟩:=x2 q2
     rw[zCJ hbx] at x3
     obtain⟨y1,y2⟩:=zD hy sat
     replace y1:=y1 q3
     obtain⟨y3,y4⟩:=y2 q3
     obtain⟨fn,hnv,_⟩:=zAk hres q4 sat.hp (zBU y4)
     have hfn:fn=[]:=zA7 hnv (by
      intro t' ht'
      rw[←q6] at ht'
      exact zMk q9 t' (List.mem_of_mem_drop (List.mem_of_mem_take ht')))
     subst hfn
     obtain⟨hfb,hS,b,t',c,hv,hϕ,hblk,hL⟩:=zAC.flat (sat.hp.sat _ _ hl) (by rintro rfl;simp[zBD,zCo,zGI,PTy.leaves] at q9)
     rw[hv] at hbx
     simp only[zCF,Option.some.injEq,Prod.mk.injEq] at hbx
     obtain⟨rfl,rfl⟩:=hbx
     obtain⟨v1,v2,v3,g1,g2,g3,hcs,hg,hl1,hl2,hL1,hL2,hL3⟩:=zEl (zG0 w) hL hS q7 hlen
     simp only[List.nil_eq_append_iff,List.append_eq_nil_iff] at hg
     obtain⟨⟨rfl,rfl⟩,rfl⟩:=hg
     have hcl:v.cells.length=ti.sz:=by
      have h1:=hnv.lens
      simp only[SV.vals_map,List.length_map] at h1
      rw[h1.2,←h1.1];rfl
     have hvl:(SV.vals β v.cells).length=ti.sz:=by simp[SV.vals_map,hcl]
     have hpl:ps.length=ti.sz:=(hnv.lens).1.symm
     have hsz:c.size=v1.length+v2.length+v3.length:=by
      have:=congrArg List.length hcs
      simpa[List.length_append,Nat.add_assoc] using this
     obtain⟨w',r1,r2,r3,r4,r5,r6,r7⟩:=zCO (P:=P) (β:=β) (v:=v) hTk ho x3 y3 sat.hp.pl hcl q11 hblk (by omega) (by simp)
     obtain⟨s1,s2,s3⟩:=zEr (off:=off) (ps:=ps) hS q7 (by rw[hpl];exact hlen) (hnv.leaves_of) (by rw[hpl];exact hTk.pos)
     have hnew:yj w' (β h) β (ϕ h) (.abx true T (yd T es i off ps)):=by
      refine .inl ⟨hfb,s2,b,t',_,hv,hϕ,r2,?_⟩
      have h4:=(hL1.append (hnv.append hL3)).frame (w':=w') (by simp)
      rw[s3,s1,hpl,zGG q7 hlen,q6]
      have e0:0+i*T.wd+off=v1.length:=by omega
      have e1:c.toList.take (0+i*T.wd+off)=v1:=by
       rw[e0,hcs,List.append_assoc,List.take_left]
      have e2:c.toList.drop (0+i*T.wd+off+ti.sz)=v3:=by
       rw[e0,hcs,←hl2,←List.length_append,List.drop_left]
      rw[List.toList_toArray,e1,e2]
      simpa[List.append_assoc] using h4
     have hb1:b∈X∨w0.heap.size≤b:=sat.hp.own _ _ hl b (by simp[zH,hϕ])
     have h2:=sat.hp.redo (A':=yk (zK [h] S.A) h (.abx true T (yd T es i off ps))) (f:=ϕ h) (hl0:=.abx true T (yd T es i off ps)) (fun j=>zP _ _ _) hl hnew (fun b hb'=>.inl (by simpa[zH] using hb')) (fun k _ hk=>r3 k (by rw[hϕ] at hk;simpa[zH] using hk)) trivial (by simp) (by simp[zM]) (by simp) (fun _=>trivial) (fun o t cs e=>by cases e) (fun o T' es' e=>by cases e;exact⟨_,_,rfl⟩)
     have hid:upd ϕ h (ϕ h)=ϕ:=by funext k;unfold upd;split<;>simp_all
     rw[hid] at h2
     exact⟨trivial,undef,w',β,ϕ,.inr ⟨r1,rfl⟩,⟨fun hh=>absurd hd hh,fun _ _=>rfl,h2,zCB (yN sat.hb _) (fun j=>zP _ _ _) (sat.hb _ _ hl).1 trivial,trivial,trivial,Nat.le_refl _,sat.fr.store r4 r5 r6 r7 hb1 r3⟩,fun h=>by simp[zAJ,zAn,ho] at h,fun h=>by simp[zEF,ho] at h⟩
    ·cases hR
   ·cases hR
  ·cases hR
 ·cases hR
end
end
section
variable [zZ]
section
variable {P:Program} {E:Env} {N:Nat} {w0:World} {X F:List Nat} {S:St} {β:Nat→GV} {ϕ:Nat→List Nat} {a:Act} {w w':World} {o:Oper} {R:RR} {A:Hp} {B:Nat}
theorem zNS{x:Operand}(hT:zAQ P E)(ho:o.op=.assign x)(hR:za E S true o=some R)(sat:Sat N w0 X F S β ϕ a w)(hob:R.ob):Snd P w0 X F S β ϕ o a w R:=by
 unfold za at hR
 rw[ho] at hR
 simp only at hR
 split at hR
 ·rename_i g' v hx
  generalize zJB E o.type=Ts at hR
  split at hR
  ·cases hR
   obtain⟨x1,x2⟩:=zD hx sat
   replace x1:=x1 (hob rfl)
   obtain⟨x3,x4⟩:=x2 (hob rfl)
   exact zR sat trivial (by simp[execOp,ho,x3]) x1 x4
  ·cases hR
   obtain⟨_,q2,q3⟩:=hob
   obtain⟨x1,x2⟩:=zD hx sat
   replace x1:=x1 q2
   obtain⟨x3,x4⟩:=x2 q2
   obtain⟨β',ϕ',a1,a2,a3,a4,a5,a6,a7,a8,a9,a10⟩:=zBK Ts v.cells S.n S.A β ϕ sat.hp sat.hb (zFx x1) (zBU x4)
   have hv:SV.val β' (v.ofCells (zAf S.n Ts v.cells).1)=SV.val β v∧SV.lt (zAf S.n Ts v.cells).2.2 (v.ofCells (zAf S.n Ts v.cells).1)∧SV.ok β' (v.ofCells (zAf S.n Ts v.cells).1):=by
    by_cases hA:∃ys,v=.agg ys
    ·obtain⟨ys,rfl⟩:=hA
     simp only[SV.cells] at a5 a6 a7 ⊢
     exact⟨by simp only[SV.ofCells,SV.val,a5],a6,a7⟩
    ·have hc:v.cells=[v]:=by cases v<;>first | rfl | exact absurd ⟨_,rfl⟩ hA
     have ho2:∀xs,v.ofCells xs=xs.headD .nilp:=by intro xs;cases v<;>first | rfl | exact absurd ⟨_,rfl⟩ hA
     rw[hc] at a5 a6 a7 a9 ⊢
     obtain⟨z,hz⟩:=List.length_eq_one_iff.1 a9
     rw[ho2,hz]
     rw[hz] at a5 a6 a7
     simp only[SV.vals,List.cons.injEq,and_true] at a5
     exact⟨a5,a6.1,a7.1⟩
   refine⟨trivial,_,w,β',ϕ',.inl ?_,⟨fun _=>rfl,a3,a1,a2,hv.2.1,hv.2.2,a8,sat.fr⟩,fun h=>by simp[zAJ,zAn,ho] at h,fun _=>Fr.refl _ _⟩
   rw[hv.1]
   simp[execOp,ho,x3]
 ·cases hR
theorem ym{c:Call}{b:Builtin}{vs:List SV}{ob:Prop}(ho:o.op=.call c)(hc:c.callee=.builtin b)(hvs:evs S true c.args.toList=some (ob,vs))(hob:ob)(sat:Sat N w0 X F S β ϕ a w) :
  ∃consts,execOp a.eval o=builtin b c.argTypes o.type consts (SV.vals β vs).toArray:=by
 obtain⟨_,h2⟩:=yV hvs sat
 obtain⟨h3,_⟩:=h2 rfl hob
 refine⟨c.args.map fun | .const _=>true | _=>false,?_⟩
 have h4:Array.map a.eval c.args=(SV.vals β vs).toArray:=by
  rw[←h3];apply Array.ext';simp
 simp only[execOp,ho,resolve,hc,h4,pure_bind,invoke]
 rfl
theorem s_len{c:Call}{vs:List SV}{ob:Prop}(hT:zAQ P E)(ho:o.op=.call c)(hc:c.callee=.builtin .len)(hvs:evs S true c.args.toList=some (ob,vs))
  (hR:yH E S true .len c.argTypes.toList ob vs=some R) (sat:Sat N w0 X F S β ϕ a w) (hob:R.ob):Snd P w0 X F S β ϕ o a w R:=by
 obtain⟨e1,e2⟩:=yV hvs sat
 unfold yH at hR
 split at hR
 ·rename_i t ts l hb hts
  split at hR
  ·rename_i ti hti
   cases hR
   obtain⟨q1,q2⟩:=hob rfl
   obtain⟨consts,hr⟩:=ym ho hc hvs q1 sat
   have hd:=(hT _ _ hti).und
   rw[q2] at hd
   have hok:=(e2 rfl q1).2.1
   have h0:c.argTypes[0]?=some t:=by rw[←Array.getElem?_toList,hts];rfl
   refine zR sat hok ?_ trivial (zMg hok)
   rw[hr]
   have hsz:(ByteArray.mk l.toArray).size=l.length:=by simp[ByteArray.size]
   simp[builtin,Builtin.len_,h0,SV.vals,SV.val,underlying,hd,goInt,hsz]
  ·cases hR
 ·rename_i t ts h hb hts
  split at hR
  ·cases hR
  ·rename_i ow T es p ti hnc hl hti
   have hnc:∀k,ow≠.cs k:=fun k e=>hnc k (by rw[e])
   cases hR
   obtain⟨q1,q2⟩:=hob rfl
   obtain⟨consts,hr⟩:=ym ho hc hvs q1 sat
   have hd:=(hT _ _ hti).und
   rw[q2] at hd
   have h0:c.argTypes[0]?=some t:=by rw[←Array.getElem?_toList,hts];rfl
   obtain⟨hle,cp,ad,hv,_⟩:=zCk (zLL sat hl hnc)
   refine zR sat hle ?_ trivial (zMg hle)
   rw[hr]
   simp[builtin,Builtin.len_,h0,SV.vals,SV.val,underlying,hd,goInt,hv]
  ·cases hR
 all_goals first | (exfalso;rename_i hb;simp at hb;done) | (exfalso;rename_i hb _;simp at hb;done) | (exfalso;rename_i hb _ _;simp at hb;done) | (exfalso;rename_i hb _ _ _;simp at hb;done) | cases hR
theorem zJ0{c:Call}{b:Builtin}{vs:List SV}{ob:Prop}(hb:b=.min∨b=.max)(ho:o.op=.call c)(hc:c.callee=.builtin b)(hvs:evs S true c.args.toList=some (ob,vs))
  (hR:yH E S true b c.argTypes.toList ob vs=some R) (sat:Sat N w0 X F S β ϕ a w) (hob:R.ob):Snd P w0 X F S β ϕ o a w R:=by
 obtain⟨e1,e2⟩:=yV hvs sat
 have key:∃k x k' y,vs=[.int k x,.int k' y]∧((b=.min∧R=⟨True,imp true (ob∧k'=k),.int k (if y < x then y else x),S.A,S.n⟩)∨(b=.max∧R=⟨True,imp true (ob∧k'=k),.int k (if y > x then y else x),S.A,S.n⟩)):=by
  rcases hb with rfl | rfl
  ·unfold yH at hR
   split at hR
   case h_5=>cases hR;exact⟨_,_,_,_,rfl,.inl ⟨rfl,rfl⟩⟩
   all_goals first | (exfalso;rename_i hb;simp at hb;done) | (exfalso;rename_i hb _;simp at hb;done) | (exfalso;rename_i hb _ _;simp at hb;done) | (exfalso;rename_i hb _ _ _;simp at hb;done) | cases hR
  ·unfold yH at hR
   split at hR
   case h_6=>cases hR;exact⟨_,_,_,_,rfl,.inr ⟨rfl,rfl⟩⟩
   all_goals first | (exfalso;rename_i hb;simp at hb;done) | (exfalso;rename_i hb _;simp at hb;done) | (exfalso;rename_i hb _ _;simp at hb;done) | (exfalso;rename_i hb _ _ _;simp at hb;done) | cases hR
 obtain⟨k,x,k',y,rfl,⟨rfl,rfl⟩ | ⟨rfl,rfl⟩⟩:=key
 ·obtain⟨q1,q2⟩:=hob rfl
  subst q2
  obtain⟨consts,hr⟩:=ym ho hc hvs q1 sat
  have h3:=(e2 rfl q1).2
  refine zR sat trivial ?_ trivial ?_
  ·rw[hr];simp[builtin,Builtin.min_,Builtin.min2,SV.vals,SV.val]
  ·show inR _ _
   split
   ·exact h3.2.1
   ·exact h3.1
 ·obtain⟨q1,q2⟩:=hob rfl
  subst q2
  obtain⟨consts,hr⟩:=ym ho hc hvs q1 sat
  have h3:=(e2 rfl q1).2
  refine zR sat trivial ?_ trivial ?_
  ·rw[hr];simp[builtin,Builtin.max_,Builtin.max2,SV.vals,SV.val]
  ·show inR _ _
   split
   ·exact h3.2.1
   ·exact h3.1
theorem zHU(w:World):∀(l:List UInt8),Lv w (zX (.int .u8) l.length) (zT (zw l)) (l.map fun b=>Value.int .u8 b.toNat) []
 | []=>.nil
 | b :: l=>by
  have h1:=zHU w l
  have h2:inR .u8 (b.toNat:Int):=by
   have:=b.toNat_lt
   have h1:IntKind.u8.min=0:=rfl
   have h2:IntKind.u8.max=255:=rfl
   simp only[inR,h1,h2];omega
  have h3:zX (.int .u8) (b :: l).length=.int .u8 :: zX (.int .u8) l.length:=by
   simp[zX,List.replicate_succ,PTy.leaves]
  have h4:zT (zw (b :: l))=.int .u8 b.toNat :: zT (zw l):=by simp[zT,zw,PV.leaves]
  rw[h3,h4]
  exact .int h2 h1
theorem zMK{k:IntKind}:∀{n:Nat} {es:List PV} {cs:List Value} {f:List Nat},Lv w (zX (.int k) n) es cs f→cs=es.map fun p=>Value.int k p.I
 | 0,es,cs,f,h=>by
  have:zX (.int k) 0=[]:=rfl
  rw[this] at h
  cases h;rfl
 | n+1,es,cs,f,h=>by
  have h3:zX (.int k) (n+1)=.int k :: zX (.int k) n:=by
   simp[zX,List.replicate_succ,PTy.leaves]
  rw[h3] at h
  cases h with
  | int h1 h2=>rw[zMK h2];rfl
theorem zG8{T:PTy}{es:List PV}(hS:∀e∈es,Shp T e)(hT:∀ts,T≠.agg ts):zT es=es:=by
 induction es with
 | nil=>rfl
 | cons e es ih=>
  have h1:∀qs,e≠.agg qs:=by
   have:=hS e (by simp)
   unfold Shp at this
   split at this
   ·exact absurd rfl (hT _)
   ·exact this
  have:=ih fun x hx=>hS x (by simp[hx])
  simp only[zT,List.flatMap_cons] at this ⊢
  rw[this,zBX h1];rfl
theorem zG7:∀(ns:List Int) (r:ByteArray),ns.foldl (fun r n=>r.push (UInt8.ofNat n.toNat)) r=⟨r.data++(ns.map fun n=>UInt8.ofNat n.toNat).toArray⟩
 | [],r=>by simp
 | n :: ns,r=>by
  simp only[List.foldl_cons]
  rw[zG7 ns]
  simp[ByteArray.push]
theorem zHJ{src dst e:TypeId}{v:Value}{es:List PV}{f:List Nat}(hs:P.underlying src=some (.slice e))(he:P.underlying e=some (.int .u8))(hd:P.underlying dst=some .string)
  (hL:Lv w [.list (.int .u8)] [.list es] [v] f):(convert src dst v).run P w=.ok (.string ⟨(zBS es).toArray⟩) w:=by
 cases hL with
 | @empty T ad c Ts ps vs fp h=>
  rw[run_convert_bytes_string w src dst e ad 0 c hs he hd]
  cases ad with
  | none=>simp[Conv.bytesToString,zBS];rfl
  | some ad=>
   have:=run_bytesToString (P:=P) w ad 0 c [] (by simp[loadCells,loadCellsFrom])
   rw[this];rfl
 | @list T es b off cap c t fr cs f1 Ts ps vs fp hb hS hl hv hc ht=>
  rw[run_convert_bytes_string w src dst e _ _ _ hs he hd]
  have hfl:=zG8 hS (by simp)
  rw[hfl] at hv
  have hcs:=zMK hv
  have hlen:cs.length=es.length:=by rw[hcs];simp
  have hbnd:off+es.length≤c.size∨es.length=0:=by
   have:=congrArg List.length hc
   rw[List.length_take,List.length_drop] at this
   simp only[Array.length_toList] at this
   omega
  have hload:(loadCells ⟨b,off,none⟩ es.length).run P w=.ok ((es.map PV.I).map (Value.int .u8)).toArray w:=by
   rcases hbnd with hbnd | hbnd
   ·rw[yA (P:=P) b off es.length c t fr hb hbnd]
    rw[hlen] at hc
    rw[hc,hcs];simp[Function.comp_def]
   ·have:es=[]:=List.eq_nil_of_length_eq_zero hbnd
    subst this
    simp[loadCells,loadCellsFrom]
  rw[run_bytesToString (P:=P) w _ _ _ _ hload,zG7]
  simp[zBS,Function.comp_def]
theorem zNZ{b cap:Nat}{T:PTy}{es:List PV}{c:Array Value}{t:TypeId}{fr:Nat × Nat}{cs:List Value}(hT:zBD T=true)(hblk:w.heap[b]?=some (.cells c t fr))(hcap:cap*T.wd≤c.size)(hle:es.length≤cap)(hmx:cap≤maxLen)(hlim:es.length≤LIM)
  (hfz:zNF T.u8 c.size fr) (hS:∀e∈es,Shp T e) (hL:Lv w (zX T es.length) (zT es) cs []) (hc:c.toList.take cs.length=cs):zCG w (.slice (some ⟨b,0,none⟩) es.length cap) T es [b]:=by
 refine zL3 hT (.inr ⟨b,[],cs,rfl,⟨⟨0,cap,c,t,fr,rfl,hblk,by omega,hle,hmx,hfz,by simpa using hc⟩,?_,hlim⟩,hS,hL⟩)
 rw[hL.lens.2,ya hS]
theorem zIl{n:Nat}{T:PTy}{es:List PV}{v:Value}{f:List Nat}(hp:zL w0.heap.size X F A β ϕ w)(hb:Bd n β A)(hw:Fr w0 X w)(hf:∀b,b < w.heap.size→w'.heap[b]?=w.heap[b]?)(ho:zCG w' v T es f)(hn:f.Nodup)(hnew:∀b∈f,w.heap.size≤b) :
  zL w0.heap.size X F ((n,.arr .dp T es .no) :: A) (upd β n (gv v)) (upd ϕ n f) w'∧Bd (n+1) (upd β n (gv v)) ((n,.arr .dp T es .no) :: A):=
 ⟨hp.addNew hb hw hf (zFw ho.lv) ho hnew hn rfl trivial,zAh hb trivial⟩
theorem zBu(w:World)(o:Obj){b:Nat}(h:b < w.heap.size):(w.drew.alloc o).heap[b]?=w.heap[b]?:=heap_alloc_old w.drew o b h
theorem Fr.drewAlloc(h:Fr w0 X w)(o:Obj):Fr w0 X (w.drew.alloc o):=
 ⟨h.os,h.tape,h.output,by have:=h.size;show _≤(w.heap.push o).size;simp;omega,fun b hb hn=>(zBu w o (Nat.lt_of_lt_of_le hb h.size)).trans (h.block b hb hn)⟩
theorem zLr{src dst:TypeId}{x:Operand}(hT:zAQ P E)(ho:o.op=.convert src dst x)(hR:za E S true o=some R)(sat:Sat N w0 X F S β ϕ a w)(hob:R.ob):Snd P w0 X F S β ϕ o a w R:=by
 unfold za at hR
 rw[ho] at hR
 simp only at hR
 split at hR
 ·rename_i g' v ti td hx hti htd
  obtain⟨x1,x2⟩:=zD hx sat
  have hs:=(hT _ _ hti).und
  have hd:=(hT _ _ htd).und
  have us:=run_underlying (w:=w) hs
  have ud:=run_underlying (w:=w) hd
  unfold zHh at hR
  split at hR
  ·rename_i k _ k' n hdk
   cases hR
   replace x1:=x1 (hob rfl)
   obtain⟨x3,x4⟩:=x2 (hob rfl)
   rw[hdk] at ud
   refine zR sat trivial ?_ trivial (zAD _ _)
   simp[execOp,ho,x3,convert,us,ud,SV.val,Conv.intToInt]
  ·rename_i l hdk hsk
   cases hR
   obtain⟨x3,x4⟩:=x2 (hob rfl)
   rw[hdk] at ud;rw[hsk] at us
   refine zR sat trivial ?_ trivial x4
   simp[execOp,ho,x3,convert,us,ud,SV.val]
  ·rename_i e h hdk hsk
   split at hR
   ·cases hR
   ·rename_i ow T es p te hnc hl hte
    have hnc:∀k,ow≠.cs k:=fun k e=>hnc k (by rw[e])
    split at hR
    ·rename_i htk
     cases hR
     obtain⟨q1,q2⟩:=hob rfl
     subst q2
     obtain⟨x3,x4⟩:=x2 q1
     rw[hdk] at hd;rw[hsk] at hs
     have he:=(hT _ _ hte).und
     rw[htk] at he
     refine zR sat trivial ?_ trivial ?_
     ·have:=zHJ (dst:=dst) hs he hd (zLL sat hl hnc)
      simp only[execOp,ho,x3,SV.val,Sem.run_bind,this,Result.andThen_ok,Sem.run_pure]
     ·have:=(zCk (zLL sat hl hnc)).1
      show(zBS es).length≤LIM
      simpa[zBS] using this
    ·cases hR
   ·cases hR
  ·rename_i e l hdk hsk
   split at hR
   ·rename_i te hte
    split at hR
    ·rename_i htk
     cases hR
     obtain⟨_,q1⟩:=hob
     obtain⟨x3,x4⟩:=x2 q1
     rw[hdk] at hd;rw[hsk] at hs
     have he:=(hT _ _ hte).und
     rw[htk] at he
     have hrun:=run_bytes_of_string (P:=P) w src dst e ⟨l.toArray⟩ hs hd he
     have hsz:(ByteArray.mk l.toArray).size=l.length:=by simp[ByteArray.size]
     rw[hsz] at hrun
     have hl:l.length≤LIM:=x4
     have hge:=grownCap_ge w l.length 0 e
     have hcm:=grownCap_le_maxLen w l.length 0 e (by unfold maxLen;unfold LIM at hl;omega)
     generalize grownCap w l.length 0 e=cap at *
     have hbs:(bytesRow ⟨l.toArray⟩ cap).size=cap:=by simp[bytesRow,hsz];omega
     have hbl:(bytesRow ⟨l.toArray⟩ cap).toList.take l.length=l.map fun b=>Value.int .u8 b.toNat:=by
      simp[bytesRow]
     have hbl2:(zw l).length=l.length:=by simp[zw]
     have hown:zCG (w.drew.alloc (.cells (bytesRow ⟨l.toArray⟩ cap) e ((bytesRow ⟨l.toArray⟩ cap).size,(bytesRow ⟨l.toArray⟩ cap).size+1))) (.slice (some ⟨w.heap.size,0,none⟩) (zw l).length cap) (.int .u8) (zw l) [w.heap.size]:=by
      refine zNZ rfl (heap_alloc_new w.drew _) (by rw[hbs];simp[PTy.wd,PTy.leaves]) (by rw[hbl2];exact hge) hcm (by rw[hbl2];exact hl) ?_ ?_ (cs:=l.map fun b=>Value.int .u8 b.toNat) ?_ ?_
      ·exact⟨fun i hi=>by omega,fun h=>(by cases h)⟩
      ·intro e' he' qs;simp only[zw,List.mem_map] at he';obtain⟨b,_,rfl⟩:=he';simp
      ·rw[hbl2];exact zHU _ l
      ·simpa using hbl
     rw[hbl2] at hown
     obtain⟨c1,c2⟩:=zIl sat.hp sat.hb sat.fr (fun b hb=>zBu w _ hb) hown (by simp) (by simp)
     refine⟨trivial,_,_,_,_,.inl ?_,⟨fun _=>rfl,fun h hh=>zs _ _ _ hh,c1,c2,?_,trivial,Nat.le_succ _,sat.fr.drewAlloc _⟩,fun h=>by simp[zAJ,zAn,ho] at h,fun _=>(Fr.refl _ _).drewAlloc _⟩
     ·simp only[execOp,ho,x3,SV.val,Sem.run_bind,hrun,Result.andThen_ok,Sem.run_pure,zi,gv]
     ·exact Nat.lt_succ_self _
    ·cases hR
   ·cases hR
  ·cases hR
 ·cases hR
end
end
section
variable [zZ]
section
variable {P:Program} {E:Env} {N:Nat} {w0:World} {X F:List Nat} {S:St} {β:Nat→GV} {ϕ:Nat→List Nat} {a:Act} {w w':World} {o:Oper} {R:RR} {A:Hp} {B:Nat}
theorem zIX(off:Nat):∀(vs:List Value) (j:Nat) (cs:Array Value),off+j+vs.length≤cs.size →
  ((vs.zipIdx j).foldl (fun cs (x:Value × Nat)=>cs.setIfInBounds (off+x.2) x.1) cs)=(cs.toList.take (off+j)++vs++cs.toList.drop (off+j+vs.length)).toArray
 | [],j,cs,h=>by simp
 | v :: vs,j,cs,h=>by
  simp only[List.length_cons] at h
  simp only[List.zipIdx_cons,List.foldl_cons]
  rw[zIX off vs (j+1) _ (by simp;omega)]
  congr 1
  have e1:(cs.setIfInBounds (off+j) v).toList=cs.toList.set (off+j) v:=by simp
  rw[e1]
  have e2:(cs.toList.set (off+j) v).take (off+(j+1))=cs.toList.take (off+j)++[v]:=by
   rw[show off+(j+1)=(off+j)+1 by omega,List.take_succ_eq_append_getElem (by simp;omega)]
   simp[List.take_set_of_le]
  have e3:(cs.toList.set (off+j) v).drop (off+(j+1)+vs.length)=cs.toList.drop (off+j+(v :: vs).length):=by
   rw[List.drop_set_of_lt (by omega)]
   congr 1;simp;omega
  rw[e2,e3];simp
theorem zIZ(place:Nat→Option (Nat × Nat))(cells:Array Value)(i:Nat)(v:Value)(rest:List (Nat × Value)){off size:Nat}(hp:place i=some (off,size))(hs:v.cells.size=size)(hb:off+v.cells.size≤cells.size) :
  Instr.fill place cells ((i,v) :: rest)=Instr.fill place (cells.toList.take off++v.cells.toList++cells.toList.drop (off+v.cells.size)).toArray rest:=by
 have h1:¬(v.cells.size≠size∨off+v.cells.size > cells.size):=by omega
 simp only[Instr.fill,hp]
 have h2:(decide (v.cells.size≠size) || decide (off+v.cells.size > cells.size))=false:=by simp[hs];omega
 rw[if_neg (by simpa using h2)]
 congr 1
 have:=zIX off v.cells.toList 0 cells (by simpa using hb)
 simp only[Nat.add_zero,Array.length_toList] at this
 rw[←this,←Array.foldl_toList,Array.toList_zipIdx]
theorem zFq(l:List (Nat × Operand))(f:Operand→Value):l.map (fun x=>(x.1,f x.2))=(zKO l).zip ((zKw l).map f):=by
 induction l with
 | nil=>rfl
 | cons x l ih=>obtain⟨i,y⟩:=x;simp[zKO,zKw,ih]
theorem zE1{ti:TI}{fs:Array Field}(hT:zAQ P E){t:TypeId}(hti:yX P t ti)(pl:∀h,(β h).v.oneCell'=true):∀(is:List Nat) (vs cells cells':List SV),zGJ ti.flds cells is vs=some cells'→zFr E ti.flds is vs →
  (∀(f off ft:Nat),ti.flds[f]?=some (off,ft)→∀tf,lk E.ty ft=some tf→(fs.map fun f=>(f.offset,(Program.cellsOf P f.type)))[f]?=some (off,tf.sz))→
  Instr.fill ((fs.map fun f=>(f.offset,(Program.cellsOf P f.type)))[·]?) (SV.vals β cells).toArray (is.zip (SV.vals β vs))=some (SV.vals β cells').toArray
 | [],[],cells,cells',h,_,_=>by cases h;rfl
 | [],v :: vs,cells,cells',h,_,_=>by cases h
 | i :: is,[],cells,cells',h,_,_=>by cases h
 | i :: is,v :: vs,cells,cells',h,hp,hfs=>by
  simp only[zGJ] at h
  split at h
  ·rename_i off ft hf
   split at h
   ·rename_i hle
    simp only[zFr,hf] at hp
    obtain⟨hp1,hp2⟩:=hp
    split at hp1
    ·rename_i tf htf
     have h1:=hfs i off ft hf tf htf
     have hc:=zCb pl v
     have hcl:(SV.val β v).cells.size=tf.sz:=by rw[hc];simp[SV.vals_map,hp1]
     simp only[SV.vals,List.zip_cons_cons]
     rw[zIZ _ _ i _ _ h1 hcl (by rw[hcl];simp[SV.vals_map];omega)]
     have ih:=zE1 hT hti pl is vs _ cells' h hp2 hfs
     rw[←ih]
     congr 1
     rw[hc]
     simp[SV.vals_map,List.map_take,List.map_drop]
    ·exact hp1.elim
   ·cases h
  ·cases h
theorem zDQ:∀(fs:List Field),(∀f∈fs,∃i,P.info? f.type=some i)→(fs.mapM fun f=>Prod.mk f.offset <$> sizeOf f.type).run P w=.ok (fs.map fun f=>(f.offset,P.cellsOf f.type)) w
 | [],_=>rfl
 | f :: fs,h=>by
  obtain⟨i,hi⟩:=h f (by simp)
  have ih:=zDQ fs fun g hg=>h g (by simp[hg])
  simp[List.mapM_cons,sizeOf,typeInfo,hi,ih,Program.cellsOf] at ih ⊢
  rw[ih];rfl
theorem zEk{flds:List (Nat × Nat)}:∀{is:List Nat} {vs cells cells':List SV},zGJ flds cells is vs=some cells'→∀x∈cells',x∈cells∨∃v∈vs,x∈v.cells
 | [],[],cells,cells',h=>by cases h;exact fun x hx=>.inl hx
 | [],v :: vs,cells,cells',h=>by cases h
 | i :: is,[],cells,cells',h=>by cases h
 | i :: is,v :: vs,cells,cells',h=>by
  simp only[zGJ] at h
  split at h
  ·split at h
   ·intro x hx
    rcases zEk h x hx with h1 | ⟨u,hu,h1⟩
    ·simp only[List.mem_append] at h1
     rcases h1 with (h1 | h1) | h1
     ·exact .inl (List.mem_of_mem_take h1)
     ·exact .inr ⟨v,by simp,h1⟩
     ·exact .inl (List.mem_of_mem_drop h1)
    ·exact .inr ⟨u,by simp[hu],h1⟩
   ·cases h
  ·cases h
theorem zPW{t:TypeId}{parts:Array (Nat × Operand)}(hT:zAQ P E)(ho:o.op=.build t parts)(hR:za E S true o=some R)(sat:Sat N w0 X F S β ϕ a w)(hob:R.ob):Snd P w0 X F S β ϕ o a w R:=by
 unfold za at hR
 rw[ho] at hR
 simp only at hR
 split at hR
 ·rename_i ti ob vs hti hvs
  split at hR
  ·rename_i cs hcs
   rw[zFR] at hcs
   cases hR
   obtain⟨q1,q2,fs,hfd⟩:=hob
   obtain⟨v1,v2⟩:=yV hvs sat
   replace v1:=v1 rfl (q1 rfl)
   obtain⟨v3,v4⟩:=v2 rfl (q1 rfl)
   have hTk:=hT _ _ hti
   obtain⟨z,hz,hzc⟩:=zDv hTk w
   have hz2:z.cells=(SV.vals β (ti.leaves.map zDs)).toArray:=by rw[hzc,zHq β hTk.lf hTk.nf]
   have hu:=zCN hTk w
   rw[hfd] at hu
   have hpl:=zDQ (P:=P) (w:=w) fs.toList (fun f hf=>hTk.fsz fs hfd f (by simpa using hf))
   have hfill:=zE1 (fs:=fs) hT hTk sat.hp.pl _ _ _ _ hcs q2 (by
    intro f off ft hf tf htf
    obtain⟨fs',fd,hd',h1,rfl,rfl⟩:=hTk.flds f off ft hf
    rw[hfd] at hd'
    cases hd'
    obtain⟨i,hi,hs,_⟩:=(hT _ _ htf).info
    simp[h1,Program.cellsOf,hi,hs])
   have hparts:(parts.map fun(i,x)=>(i,a.eval x)).toList=(zKO parts.toList).zip (SV.vals β vs):=by
    rw[Array.toList_map,←v3]
    exact zFq parts.toList a.eval
   refine zR sat trivial ?_ ?_ ?_
   ·simp only[execOp,ho,Instr.build,Sem.run_bind,hz,Result.andThen_ok,hu,Array.mapM_eq_mapM_toList]
    simp only[bind_pure_comp,Sem.run_map,hpl,Result.andThen_ok,hparts,hz2]
    have hg:(fun(x:Nat)=>(List.map (fun f=>(f.offset,P.cellsOf f.type)) fs.toList).toArray[x]?)=(fun(x:Nat)=>(fs.map fun f=>(f.offset,P.cellsOf f.type))[x]?):=by
     funext x;simp
    rw[hg,hfill]
    simp[SV.val]
   ·show SV.lts _ _
    rw[SV.lts_iff]
    intro x hx
    rcases zEk hcs x hx with h1 | ⟨u,hu,h1⟩
    ·exact SV.lts_iff.1 (zJs _ _) x h1
    ·exact SV.lts_iff.1 (zFx (SV.lts_iff.1 v1 u hu)) x h1
   ·show SV.oks _ _
    rw[SV.oks_iff]
    intro x hx
    rcases zEk hcs x hx with h1 | ⟨u,hu,h1⟩
    ·exact SV.oks_iff.1 (zJr _ _) x h1
    ·exact SV.oks_iff.1 (zBU (SV.oks_iff.1 v4 u hu)) x h1
  ·cases hR
 ·cases hR
end
end
section
variable [zZ]
section
variable {P:Program} {E:Env} {N:Nat} {w0:World} {X F:List Nat} {S:St} {β:Nat→GV} {ϕ:Nat→List Nat} {a:Act} {w w':World} {o:Oper} {R:RR} {A:Hp} {B:Nat}
theorem zID{P:Program}{t:TypeId}{te:TI}(hTe:yX P t te):te.pty.wd=te.sz∧te.pty.leaves=te.leaves:=by
 unfold TI.pty
 cases hA:te.agg with
 | true=>simp[PTy.wd,PTy.leaves,TI.sz]
 | false=>
  obtain⟨y,hy⟩:=List.length_eq_one_iff.1 (show te.leaves.length=1 from hTe.one hA)
  have:=hTe.lf y (by simp[hy])
  simp[hy,PTy.wd,TI.sz,this]
theorem zI6{T:PTy}{x:SV}{ob:Prop}{p:PV}(hd:zEI T=true)(h:yJ A T x=some (ob,p)):zv A T.leaves x.cells=some (ob,p.leaves)∨zv A T.leaves x.cells=some (ob∧True,p.leaves):=by
 cases T with
 | agg ts=>
  cases x with
  | agg xs=>
   simp only[yJ] at h
   split at h
   ·rename_i o ps hps
    simp only[Option.some.injEq,Prod.mk.injEq] at h
    obtain⟨rfl,rfl⟩:=h
    exact .inl hps
   ·cases h
  | _=>simp[yJ,yS] at h
 | int k=>cases x<;>simp only[yJ,yS,reduceCtorEq,Option.some.injEq,Prod.mk.injEq] at h<;>obtain⟨rfl,rfl⟩:=h<;>exact .inr (by simp[PTy.leaves,SV.cells,zv,yS,PV.leaves])
 | bool=>cases x<;>simp only[yJ,yS,reduceCtorEq,Option.some.injEq,Prod.mk.injEq] at h<;>obtain⟨rfl,rfl⟩:=h<;>exact .inr (by simp[PTy.leaves,SV.cells,zv,yS,PV.leaves])
 | str=>cases x<;>simp only[yJ,yS,reduceCtorEq,Option.some.injEq,Prod.mk.injEq] at h<;>obtain⟨rfl,rfl⟩:=h<;>exact .inr (by simp[PTy.leaves,SV.cells,zv,yS,PV.leaves])
 | list T=>
  have h':yS A (.list T) x=some (ob,p):=by cases x<;>simpa[yJ] using h
  have hx:x.cells=[x]:=by cases x<;>first | rfl | (simp[yS] at h')
  have hp:p.leaves=[p]:=by
   cases x<;>simp only[yS,reduceCtorEq] at h'
   ·split at h'
    ·cases h'
    ·simp only[Option.some.injEq,Prod.mk.injEq] at h';obtain⟨_,rfl⟩:=h';rfl
    ·cases h'
   ·simp only[Option.some.injEq,Prod.mk.injEq] at h';obtain⟨_,rfl⟩:=h';rfl
  right
  rw[hx,hp]
  simp[PTy.leaves,zv,h']
 | _=>simp[zEI,PTy.leaves,zBY,zJE] at hd
theorem zDy:∀{ts:List PTy} {xs:List SV} {ob:Prop} {ps:List PV},zv A ts xs=some (ob,ps)→xs.length=ts.length∧ps.length=ts.length
 | [],[],ob,ps,h=>by cases h;exact⟨rfl,rfl⟩
 | [],x :: xs,ob,ps,h=>by cases h
 | t :: ts,[],ob,ps,h=>by cases h
 | t :: ts,x :: xs,ob,ps,h=>by
  simp only[zv] at h
  split at h
  ·rename_i h2
   cases h
   obtain⟨h3,h4⟩:=zDy h2
   exact⟨by simp[h3],by simp[h4]⟩
  ·cases h
theorem zNW{T:PTy}{x:SV}{ob:Prop}{p:PV}(hd:zEI T=true)(h:yJ A T x=some (ob,p)):Shp T p:=by
 cases T with
 | agg ts=>
  cases x with
  | agg xs=>
   simp only[yJ] at h
   split at h
   ·rename_i o ps hps
    simp only[Option.some.injEq,Prod.mk.injEq] at h
    obtain⟨rfl,rfl⟩:=h
    exact⟨ps,rfl,(zDy hps).2⟩
   ·cases h
  | _=>simp[yJ,yS] at h
 | int k=>cases x<;>simp only[yJ,yS,reduceCtorEq,Option.some.injEq,Prod.mk.injEq] at h<;>obtain⟨rfl,rfl⟩:=h<;>simp[Shp]
 | bool=>cases x<;>simp only[yJ,yS,reduceCtorEq,Option.some.injEq,Prod.mk.injEq] at h<;>obtain⟨rfl,rfl⟩:=h<;>simp[Shp]
 | str=>cases x<;>simp only[yJ,yS,reduceCtorEq,Option.some.injEq,Prod.mk.injEq] at h<;>obtain⟨rfl,rfl⟩:=h<;>simp[Shp]
 | list T=>
  have h':yS A (.list T) x=some (ob,p):=by cases x<;>simpa[yJ] using h
  cases x<;>simp only[yS,reduceCtorEq] at h'
  ·split at h'
   ·cases h'
   ·simp only[Option.some.injEq,Prod.mk.injEq] at h';obtain⟨_,rfl⟩:=h';simp[Shp]
   ·cases h'
  ·simp only[Option.some.injEq,Prod.mk.injEq] at h';obtain⟨_,rfl⟩:=h';simp[Shp]
 | _=>simp[zEI,PTy.leaves,zBY,zJE] at hd
def yg:List SV→List SV
 | []=>[]
 | x :: xs=>x.cells++yg xs
theorem zHy(xs ys:List SV):zW (xs++ys)=zW xs++zW ys:=by
 induction xs with
 | nil=>rfl
 | cons x xs ih=>cases x<;>simp[zW,ih]
theorem zCd(xs:List SV):zAK xs=zW (yg xs):=by
 induction xs with
 | nil=>rfl
 | cons x xs ih=>simp[zAK,yg,zHy,ih]
theorem zEt:∀{ts ts':List PTy} {xs xs':List SV} {ob ob':Prop} {ps ps':List PV},zv A ts xs=some (ob,ps)→zv A ts' xs'=some (ob',ps')→∃ob2,zv A (ts++ts') (xs++xs')=some (ob2,ps++ps')∧(ob→ob'→ob2)
 | [],ts',[],xs',ob,ob',ps,ps',h,h'=>by cases h;exact⟨ob',by simpa using h',fun _ h=>h⟩
 | [],ts',x :: xs,xs',ob,ob',ps,ps',h,h'=>by cases h
 | t :: ts,ts',[],xs',ob,ob',ps,ps',h,h'=>by cases h
 | t :: ts,ts',x :: xs,xs',ob,ob',ps,ps',h,h'=>by
  simp only[zv] at h
  split at h
  ·rename_i o1 p o2 qs h1 h2
   cases h
   obtain⟨ob2,h3,h4⟩:=zEt h2 h'
   exact⟨o1∧ob2,by simp[zv,h1,h3],fun h5 h6=>⟨h5.1,h4 h5.2 h6⟩⟩
  ·cases h
theorem zFl{T:PTy}(hd:zEI T=true):∀{vs:List SV} {ob:Prop} {ps:List PV},zLy A T vs=some (ob,ps)→ob →
  ∃ob2,zv A (zX T vs.length) (yg vs)=some (ob2,zT ps)∧ob2∧(∀e∈ps,Shp T e)∧ps.length=vs.length∧(∀v∈vs,v.cells.length=T.wd)
 | [],ob,ps,h,hob=>by cases h;exact⟨True,rfl,trivial,by simp,rfl,by simp⟩
 | v :: vs,ob,ps,h,hob=>by
  simp only[zLy] at h
  split at h
  ·rename_i o1 p o2 qs h1 h2
   cases h
   obtain⟨ob2,b1,b2,b3,b4,b5⟩:=zFl hd h2 hob.2
   have hs:=zNW hd h1
   have hl:∃o3,zv A T.leaves v.cells=some (o3,p.leaves)∧o3:=by
    rcases zI6 hd h1 with h3 | h3
    ·exact⟨_,h3,hob.1⟩
    ·exact⟨_,h3,hob.1,trivial⟩
   obtain⟨o3,h3,h4⟩:=hl
   obtain⟨ob4,h5,h6⟩:=zEt h3 b1
   have e1:zX T (v :: vs).length=T.leaves++zX T vs.length:=by simp[zX,List.replicate_succ]
   have e2:zT (p :: qs)=p.leaves++zT qs:=by simp[zT]
   refine⟨ob4,by rw[e1,e2];exact h5,h6 h4 b2,?_,by simp[b4],?_⟩
   ·intro e he
    rcases List.mem_cons.1 he with rfl | he
    ·exact hs
    ·exact b3 e he
   ·intro u hu
    rcases List.mem_cons.1 hu with rfl | hu
    ·exact(zDy h3).1
    ·exact b5 u hu
  ·cases h
theorem zMB:∀{xs:List SV},SV.oks β xs→SV.oks β (yg xs)
 | [],_=>trivial
 | x :: xs,h=>by
  have h1:=zBU h.1
  have h2:=zMB h.2
  rw[SV.oks_iff] at *
  intro y hy
  rcases List.mem_append.1 hy with hy | hy
  ·exact h1 y hy
  ·exact h2 y hy
theorem zJd{T:PTy}(h:zEI T=true)(n:Nat):zBY (zX T n)=true:=by
 rw[zB3]
 intro t ht
 simp only[zX,List.mem_flatten,List.mem_replicate] at ht
 obtain⟨l,⟨_,rfl⟩,hm⟩:=ht
 exact zB3.1 h t hm
theorem zNB{n b:Nat}{T:PTy}{es:List PV}{v:Value}{hs:List Nat}{o':Own}{A A':Hp}{ϕ':Nat→List Nat}(tk:zQQ w0.heap.size X F A A' β ϕ' w n o' hs)(hw:Fr w0 X w)(hf:∀b,b < w.heap.size→w'.heap[b]?=w.heap[b]?)(hb:w.heap.size≤b)
  (hdp:o'=.dp→zCG w' v T es (b :: (hs.map ϕ').flatten)) (hsh:o'=.sh→zGe w' v T es (b :: (hs.map ϕ').flatten)) :
  zL w0.heap.size X F ((n,.arr o' T es .no) :: A') (upd β n (gv v)) (upd ϕ' n (b :: (hs.map ϕ').flatten)) w'∧Bd (n+1) (upd β n (gv v)) ((n,.arr o' T es .no) :: A'):=by
 have hp:=tk.hp.grow hf
 have hsz:=hw.size
 have hnot:∀i hl,lk A' i=some hl→hl≠.dead→∀x∈ϕ' i,x≠b:=by
  intro i hl hi hd x hx e
  subst e
  have:=tk.hp.inb hi hd x hx
  omega
 have hbn:b ∉ (hs.map ϕ').flatten:=fun hm=>by have:=tk.inb b hm;omega
 rcases tk.how with ⟨rfl,e2,e3,e4,e5⟩ | ⟨rfl,e2,e3,e4⟩
 ·have ho:=hdp rfl
  refine⟨hp.add tk.hb (zFw ho.lv) ho ?_ ?_ (List.nodup_cons.2 ⟨hbn,e3⟩) ?_ ?_ trivial (by simp[zM]) (by simp[zM]),zAh tk.hb trivial⟩
  ·intro x hx
   rcases List.mem_cons.1 hx with rfl | hx
   ·exact .inr (by omega)
   ·exact(e5 x hx).1
  ·intro _ x hx
   rcases List.mem_cons.1 hx with rfl | hx
   ·exact .inr (by omega)
   ·exact(e5 x hx).2
  ·intro i hl hi hd x hx hm
   rcases List.mem_cons.1 hm with rfl | hm
   ·exact hnot i hl hi hd x hx rfl
   ·exact e4 i hl hi hd x hx hm
  ·intro i hl hi _ x hx hm
   by_cases hd:hl=.dead
   ·subst hd;simp[zH] at hx
   ·rcases List.mem_cons.1 hm with rfl | hm
    ·exact hnot i hl hi hd x (zU x hx) rfl
    ·exact e4 i hl hi hd x (zU x hx) hm
 ·have ho:=hsh rfl
  refine⟨hp.add tk.hb (zFw ho.lv) ho ?_ ?_ ?_ ?_ ?_ trivial (by simp[zM]) (by simp[zM]),zAh tk.hb trivial⟩
  ·intro x hx
   simp only[zH,List.take_succ_cons,List.take_zero,List.mem_singleton] at hx
   exact .inr (by omega)
  ·intro _ x hx
   rcases List.mem_cons.1 hx with rfl | hx
   ·exact .inr (by omega)
   ·exact e4 x hx
  ·intro b' r e
   cases e
   exact hbn
  ·intro i hl hi hd x hx hm
   simp only[zH,List.take_succ_cons,List.take_zero,List.mem_singleton] at hm
   exact hnot i hl hi hd x hx hm
  ·intro i hl hi _ x hx hm
   by_cases hd:hl=.dead
   ·subst hd;simp[zH] at hx
   ·rcases List.mem_cons.1 hm with rfl | hm
    ·exact hnot i hl hi hd x (zU x hx) rfl
    ·exact e3 i hl hi x hx hm
theorem zHe(size:Nat):∀(vals:List Value) (k:Nat) (c:List Value),(∀v∈vals,v.cells.size=size)→c.length=(k+vals.length)*size →
  Instr.fill (fun i=>some (i*size,size)) c.toArray ((List.range' k vals.length).zip vals)=some (c.take (k*size)++vals.flatMap fun v=>v.cells.toList).toArray
 | [],k,c,_,hc=>by
  simp only[List.length_nil,Nat.add_zero] at hc
  simp[Instr.fill,List.take_of_length_le (Nat.le_of_eq hc)]
 | v :: vals,k,c,hv,hc=>by
  have h1:=hv v (by simp)
  simp only[List.length_cons] at hc
  have e:(k+(vals.length+1))*size=k*size+size+vals.length*size:=by simp only[Nat.add_mul,Nat.one_mul];omega
  simp only[List.length_cons,List.range'_succ,List.zip_cons_cons]
  rw[zIZ _ _ k v _ rfl h1 (by simp;omega)]
  have hlen:(c.take (k*size)++v.cells.toList++c.drop (k*size+v.cells.size)).length=(k+1+vals.length)*size:=by
   simp only[List.length_append,List.length_take,List.length_drop,Array.length_toList,h1]
   have e2:(k+1+vals.length)*size=k*size+size+vals.length*size:=by simp only[Nat.add_mul,Nat.one_mul]
   omega
  have ih:=zHe size vals (k+1) _ (fun u hu=>hv u (by simp[hu])) hlen
  simp only[List.toList_toArray] at ih ⊢
  rw[ih]
  congr 1
  have h2:(k+1)*size=(c.take (k*size)++v.cells.toList).length:=by
   simp only[List.length_append,List.length_take,Array.length_toList,h1,Nat.add_mul,Nat.one_mul];omega
  rw[h2,List.take_left]
  simp
theorem zH0{t:TypeId}{len:Nat}{parts:Array (Nat × Operand)}(hT:zAQ P E)(ho:o.op=.buildSlice t len parts)(hR:za E S true o=some R)(sat:Sat N w0 X F S β ϕ a w)(hob:R.ob):Snd P w0 X F S β ϕ o a w R:=by
 unfold za at hR
 rw[ho] at hR
 simp only at hR
 split at hR
 ·rename_i ti ob vs hti hvs
  split at hR
  ·rename_i te hte
   split at hR
   ·rename_i ob' ps hres
    cases hR
    obtain⟨_,q2,q3,q4,q5,q6,q7,q8⟩:=hob
    obtain⟨v1,v2⟩:=yV hvs sat
    replace v1:=v1 rfl q2
    obtain⟨v3,v4⟩:=v2 rfl q2
    have hTk:=hT _ _ hti
    have hTe:=hT _ _ hte
    have hu:=zCN hTk w
    rw[q6] at hu
    have hsz:=yZ hTe w
    obtain⟨z,hz,hzc⟩:=zDv hTe w
    obtain⟨ob2,r1,r2,r3,r4,r5⟩:=zFl q7 hres q3
    have hwd:te.pty.wd=te.sz:=(zID hTe).1
    have hvl:vs.length=len:=by
     have h1:(zKO parts.toList).length=parts.toList.length:=by
      induction parts.toList with
      | nil=>rfl
      | cons x l ih=>obtain⟨i,y⟩:=x;simp[zKO,ih]
     have h2:((zKw parts.toList).map a.eval).length=vs.length:=by rw[v3];simp[SV.vals_map]
     have h3:(zKw parts.toList).length=parts.toList.length:=by
      clear h2 h1 hvs v3 q5 q4 hres
      induction parts.toList with
      | nil=>rfl
      | cons x l ih=>obtain⟨i,y⟩:=x;simp[zKw,ih]
     have h4:=congrArg List.length q4
     simp at h4 h2
     omega
    have hparts:(parts.map fun(i,x)=>(i,a.eval x)).toList=(List.range' 0 (SV.vals β vs).length).zip (SV.vals β vs):=by
     rw[Array.toList_map,←v3]
     have:=zFq parts.toList a.eval
     rw[this,q4,List.range_eq_range']
     congr 2
     have:((zKw parts.toList).map a.eval).length=vs.length:=by rw[v3];simp[SV.vals_map]
     rw[this,hvl]
    have hcells:∀v∈SV.vals β vs,v.cells.size=te.sz:=by
     intro v hv
     rw[SV.vals_map,List.mem_map] at hv
     obtain⟨x,hx,rfl⟩:=hv
     rw[zCb sat.hp.pl x]
     simp[SV.vals_map,r5 x hx,hwd]
    have hflat:((SV.vals β vs).flatMap fun v=>v.cells.toList)=SV.vals β (yg vs):=by
     rw[SV.vals_map,List.flatMap_map]
     clear hres hvs v1 v2 v3 v4 r1 r3 r4 r5 hvl hparts hcells q8
     induction vs with
     | nil=>rfl
     | cons x xs ih=>
      simp only[List.flatMap_cons,yg,SV.vals_map,List.map_append] at ih ⊢
      rw[ih,zCb sat.hp.pl x];simp[SV.vals_map]
    have hvl2:(SV.vals β vs).length=len:=by simp[SV.vals_map,hvl]
    have hfill:∀zz:Array Value,Instr.fill (fun i=>some (i*te.sz,te.sz)) ((Array.range (len*te.sz)).map (fun i=>zz[i % zz.size]!)) ((List.range' 0 (SV.vals β vs).length).zip (SV.vals β vs))=some (SV.vals β (yg vs)).toArray:=by
     intro zz
     have harr:(Array.range (len*te.sz)).map (fun i=>zz[i % zz.size]!)=((List.range (len*te.sz)).map (fun i=>zz[i % zz.size]!)).toArray:=by
      apply Array.ext';simp
     have:=zHe te.sz (SV.vals β vs) 0 ((List.range (len*te.sz)).map (fun i=>zz[i % zz.size]!)) hcells (by simp[hvl2])
     simp only[Nat.zero_mul,List.take_zero,List.nil_append,hflat] at this
     rw[harr];exact this
    have hclen:(SV.vals β (yg vs)).length=len*te.sz:=by
     rw[SV.vals_map,List.length_map,(zDy r1).1,yU,hvl,hwd]
    have hpos:=hTe.pos
    have hlen:len≤16777216:=Nat.le_trans (Nat.le_mul_of_pos_right _ hpos) q5
    have hpl:ps.length=len:=by rw[r4,hvl]
    obtain⟨ϕ1,tk⟩:=zEq (o:=.dp) (hs:=zAK vs) sat.hp sat.hb (.inl rfl) q8
    have hok:=zMB v4
    have hroom:zOg (w.alloc (.cells (SV.vals β (yg vs)).toArray ti.el)) (.slice (some ⟨w.heap.size,0,none⟩) len len) te.pty.wd te.pty.u8 ps.length w.heap.size (SV.vals β (yg vs)):=by
     refine⟨⟨0,len,_,ti.el,(0,0),by rw[hpl],heap_alloc_new w _,by simp[hclen,hwd],Nat.le_of_eq hpl,by unfold maxLen;omega,zNF.none _ _,by simp⟩,by rw[hclen,hpl,hwd],by rw[hpl];unfold LIM;omega⟩
    have hfr:∀k,k < w.heap.size→(w.alloc (.cells (SV.vals β (yg vs)).toArray ti.el)).heap[k]?=w.heap[k]?:=fun k hk=>zBe w _ hk
    have hsls:((zAK vs).map ϕ1).flatten=(zEi ϕ1 (yg vs)).flatten:=by rw[y8,zCd]
    obtain⟨c1,c2⟩:=zNB (n:=S.n) (b:=w.heap.size) (T:=te.pty) (es:=ps) (v:=.slice (some ⟨w.heap.size,0,none⟩) len len) tk sat.fr hfr (Nat.le_refl _)
     (fun hd=>by
      rcases tk.how with ⟨_,e2,_⟩ | ⟨e1,_⟩
      ·have hLD:=yx r1 r2 hok (ϕ':=ϕ1) (by rw[←zCd];exact e2)
       have hLo:Lo w (zX te.pty vs.length) (zT ps) (SV.vals β (yg vs)) ((zAK vs).map ϕ1).flatten:=⟨_,hsls,zO3 hLD (zJd q7 _)⟩
       refine .inr ⟨w.heap.size,_,_,rfl,hroom,r3,?_⟩
       rw[r4]
       exact hLo.frame fun k hk=>hfr k (tk.inb k hk)
      ·rw[hd] at e1;cases e1)
     (fun hd=>by
      rcases tk.how with ⟨e1,_⟩ | ⟨_,e2,_⟩
      ·rw[hd] at e1;cases e1
      ·have hLv:=zCP r1 r2 hok (ϕ':=ϕ1) (by rw[←zCd];exact e2)
       rw[←hsls] at hLv
       refine .inr ⟨w.heap.size,_,_,rfl,hroom,r3,?_⟩
       rw[r4]
       exact hLv.frame fun k hk=>hfr k (tk.inb k hk))
    refine⟨trivial,_,_,_,_,.inl ?_,⟨fun _=>rfl,fun h hh=>zs _ _ _ hh,c1,c2,Nat.lt_succ_self _,trivial,Nat.le_succ _,sat.fr.alloc _⟩,fun h=>by simp[zAJ,zAn,ho] at h,fun _=>(Fr.refl _ _).alloc _⟩
    have hnot:¬(len*te.sz > 2 ^ 24):=by omega
    simp only[execOp,ho,Instr.buildSlice,Sem.run_bind,hu,Result.andThen_ok,hsz,if_neg hnot,hparts,SV.val,zi,gv]
    by_cases h0:len*te.sz=0
    ·simp only[if_pos h0,Sem.run_bind,Sem.run_pure,Result.andThen_ok,hfill,newRow,run_newObj]
     rfl
    ·simp only[if_neg h0,Sem.run_bind,Sem.run_pure,Result.andThen_ok,hz,hfill,newRow,run_newObj]
     rfl
   ·cases hR
  ·cases hR
 ·cases hR
end
end
end Go.Proofs.YtdmbfkooebldcaaGreatDoor
