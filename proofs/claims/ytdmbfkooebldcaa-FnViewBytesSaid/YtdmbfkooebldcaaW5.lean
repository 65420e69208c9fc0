/-
  Part 5: contracts of functions, and the laws by which they are proved.
  Conditions: none.
-/
import Derived.Test.YtdmbfkooebldcaaW4
import Derived.Test.YtdmbfkooebldcaaChecked
import Derived.Lib.Builder
import Derived.Lib.AppendStr
import Derived.Lib.UnsafeStr
import Derived.WalkKit
import Derived.OwnWalk
import Derived.Laws.Externs
set_option linter.unusedVariables false
set_option linter.unusedSimpArgs false
set_option linter.unusedSectionVars false
set_option maxRecDepth 100000
namespace Go.Proofs.Ytdmbfkooebldcaa
section
variable [ze]
def rn(ρ:List (Nat × Nat))(h:Nat):Nat:=match lk ρ h with | some i=>i | none=>h
mutual
def zFS(ρ:List (Nat × Nat)):SV→SV→Prop
 | x,.int k n=>match x with | .int k' n'=>k'=k∧n'=n | _=>False
 | x,.bool b=>match x with | .bool b'=>b'=b | _=>False
 | x,.str l=>match x with | .str l'=>l'=l | _=>False
 | x,.sl h=>match x with | .sl h'=>h'=rn ρ h | _=>False
 | x,.ptr h o=>match x with | .ptr h' o'=>h'=rn ρ h∧o'=o | _=>False
 | x,.elp h i d o=>match x with | .elp h' i' d' o'=>h'=rn ρ h∧i'=i∧d'=d∧o'=o | _=>False
 | x,.agg ys=>match x with | .agg xs=>zFR ρ xs ys | _=>False
 | x,.tup ys=>match x with | .tup xs=>zFR ρ xs ys | _=>False
 | x,.fn f ys=>match x with | .fn f' xs=>f'=f∧zFR ρ xs ys | _=>False
 | x,.nils=>match x with | .nils=>True | _=>False
 | x,.nilp=>match x with | .nilp=>True | _=>False
 | x,.glo g i=>match x with | .glo g' i'=>g'=g∧i'=i | _=>False
def zFR(ρ:List (Nat × Nat)):List SV→List SV→Prop
 | xs,[]=>match xs with | []=>True | _=>False
 | xs,y :: ys=>match xs with | x :: xs=>zFS ρ x y∧zFR ρ xs ys | _=>False
end
def entR(ρ:List (Nat × Nat))(D:List Nat)(rs rs':List Nat):Prop:=
 (∀i∈D,zAK rs (rn ρ i)=true→zAK rs' i=true)∧∀r∈rs',zAK D r=true∧zAK rs (rn ρ r)=true
def zLk(ρ:List (Nat × Nat))(D:List Nat):Own→Own→Prop
 | .vw rs,.vw rs'=>entR ρ D rs rs'
 | .sh,.sh=>True
 | .dp,.dp=>True
 | .cs k,.cs k'=>k=k'
 | .dp,.cs k=>k=0
 | .dp,.vw []=>True
 | .sh,.vw []=>True
 | _,_=>False
def entP(ρ:List (Nat × Nat)):Pth→Pth→Prop
 | _,.no=>True
 | p,.sub r lo=>p=.sub (rn ρ r) lo
 | _,_=>False
def zD3(ρ:List (Nat × Nat))(D:List Nat):HL→HL→Prop
 | .arr o T es p,.arr o' T' es' p'=>zLk ρ D o o'∧T=T'∧es=es'∧entP ρ p p'
 | .box ow t cs,.box ow' t' cs'=>ow=ow'∧(t'=t∨t'=0)∧zFR ρ cs cs'
 | .abx ow T es,.abx ow' T' es'=>ow=ow'∧T=T'∧es=es'
 | .bld T e l,.bld T' e' l'=>T=T'∧e=e'∧l=l'
 | _,_=>False
def zS1(n:Nat):HL→Prop | .box _ _ cs=>SV.lts n cs | _=>True
def zR7:Hp→List Nat
 | []=>[]
 | (h,_) :: r=>h :: zR7 r
def entA(ρ:List (Nat × Nat))(A:Hp)(B:List Nat)(n:Nat):Hp→Prop
 | []=>True
 | (h,hl') :: r=>(match lk A (rn ρ h) with | some hl=>zD3 ρ B hl hl' | none=>False)∧h < n∧zS1 n hl'∧entA ρ A B n r
def entL(ρ:List (Nat × Nat))(keep:List Nat)(n:Nat)(L:List (Nat × SV)):List (Nat × SV)→Prop
 | []=>True
 | (t,v') :: r=>(match lk L t with | some v=>zFS ρ v v' | none=>False)∧keep.contains t=true∧SV.lt n v'∧entL ρ keep n L r
def zNs(A:Hp):HL→Prop
 | .arr o _ _ p=>(match p with
  | .sub r _=>(match o with | .vw rs=>zAK rs r=true | _=>False)∧(match lk A r with | some (.arr o' _ _ _)=>(match o' with | .dp=>True | .sh=>True | _=>False) | _=>False)
  | _=>True)
 | _=>True
def zKJ(A:Hp):Hp→Prop
 | []=>True
 | (_,x) :: r=>zNs A x∧zKJ A r
def ent(keep:List Nat)(n0:Nat)(ρ:List (Nat × Nat))(S T:St):Prop:=
 T.Lt=[]∧n0≤T.n∧(∀p∈ρ,n0≤p.1)∧(T.A.map fun p=>rn ρ p.1).Nodup∧entL ρ keep T.n S.Lp T.Lp∧entA ρ S.A (zR7 T.A) T.n T.A∧zKJ T.A T.A
mutual
theorem zKs{ρ:List (Nat × Nat)}(β:Nat→GV):∀(x y:SV),zFS ρ x y→SV.val (fun h=>β (rn ρ h)) y=SV.val β x
 | x,.int k n,h=>by cases x<;>simp only[zFS] at h<;>obtain⟨rfl,rfl⟩:=h;rfl
 | x,.bool b,h=>by cases x<;>simp only[zFS] at h;subst h;rfl
 | x,.str l,h=>by cases x<;>simp only[zFS] at h;subst h;rfl
 | x,.sl i,h=>by cases x<;>simp only[zFS] at h;subst h;rfl
 | x,.ptr i o,h=>by cases x<;>simp only[zFS] at h<;>obtain⟨rfl,rfl⟩:=h;rfl
 | x,.elp i j d o,h=>by cases x<;>simp only[zFS] at h<;>obtain⟨rfl,rfl,rfl,rfl⟩:=h;rfl
 | x,.agg ys,h=>by cases x<;>simp only[zFS] at h;simp only[SV.val];rw[zC3 β _ ys h]
 | x,.tup ys,h=>by cases x<;>simp only[zFS] at h;simp only[SV.val];rw[zC3 β _ ys h]
 | x,.fn f ys,h=>by cases x<;>simp only[zFS] at h<;>obtain⟨rfl,h⟩:=h;simp only[SV.val];rw[zC3 β _ ys h]
 | x,.nils,h=>by cases x<;>simp only[zFS] at h;rfl
 | x,.nilp,h=>by cases x<;>simp only[zFS] at h;rfl
 | x,.glo g i,h=>by cases x<;>simp only[zFS] at h<;>obtain⟨rfl,rfl⟩:=h;rfl
theorem zC3{ρ:List (Nat × Nat)}(β:Nat→GV):∀(xs ys:List SV),zFR ρ xs ys→SV.vals (fun h=>β (rn ρ h)) ys=SV.vals β xs
 | xs,[],h=>by cases xs<;>simp only[zFR] at h;rfl
 | xs,y :: ys,h=>by cases xs<;>simp only[zFR] at h;simp only[SV.vals];rw[zKs β _ y h.1,zC3 β _ ys h.2]
end
mutual
theorem zNJ{ρ:List (Nat × Nat)}(β:Nat→GV):∀(x y:SV),zFS ρ x y→SV.ok β x→SV.ok (fun h=>β (rn ρ h)) y
 | x,.int k n,h,hk=>by cases x<;>simp only[zFS] at h<;>obtain⟨rfl,rfl⟩:=h;exact hk
 | x,.bool b,h,hk=>trivial
 | x,.str l,h,hk=>by cases x<;>simp only[zFS] at h;subst h;exact hk
 | x,.sl i,h,hk=>trivial
 | x,.ptr i o,h,hk=>by cases x<;>simp only[zFS] at h<;>obtain⟨rfl,rfl⟩:=h;exact hk
 | x,.elp i j d o,h,hk=>by cases x<;>simp only[zFS] at h<;>obtain⟨rfl,rfl,rfl,rfl⟩:=h;exact hk
 | x,.agg ys,h,hk=>by cases x<;>simp only[zFS] at h;exact zEV β _ ys h hk
 | x,.tup ys,h,hk=>by cases x<;>simp only[zFS] at h;exact zEV β _ ys h hk
 | x,.fn f ys,h,hk=>by cases x<;>simp only[zFS] at h<;>obtain⟨rfl,h⟩:=h;exact zEV β _ ys h hk
 | x,.nils,h,hk=>trivial
 | x,.nilp,h,hk=>trivial
 | x,.glo g i,h,hk=>trivial
theorem zEV{ρ:List (Nat × Nat)}(β:Nat→GV):∀(xs ys:List SV),zFR ρ xs ys→SV.oks β xs→SV.oks (fun h=>β (rn ρ h)) ys
 | xs,[],h,hk=>trivial
 | xs,y :: ys,h,hk=>by cases xs<;>simp only[zFR] at h;exact⟨zNJ β _ y h.1 hk.1,zEV β _ ys h.2 hk.2⟩
end
section
variable {C:Cx} {S T:St} {a:Act} {w:World} {ρ:List (Nat × Nat)} {k:List KI}
theorem zSi{n0 h:Nat}(hρ:∀p∈ρ,n0≤p.1)(hh:h < n0):rn ρ h=h:=by
 unfold rn
 have:lk ρ h=none:=by
  induction ρ with
  | nil=>rfl
  | cons p ρ ih=>
   obtain⟨i,j⟩:=p
   simp only[lk]
   have:=hρ (i,j) (by simp)
   rw[if_neg (by simp at this;omega)]
   exact ih fun p hp=>hρ p (by simp[hp])
 rw[this]
theorem zJt{keep:List Nat}{n:Nat}{L:List (Nat × SV)}:∀{L':List (Nat × SV)},entL ρ keep n L L'→∀t v',lk L' t=some v'→∃v,lk L t=some v∧zFS ρ v v'∧keep.contains t=true∧SV.lt n v'
 | [],_,t,v',h=>by cases h
 | (i,x) :: r,hL,t,v',h=>by
  obtain⟨h1,h2,h3,h4⟩:=hL
  simp only[lk] at h
  split at h
  ·rename_i e;subst e;cases h
   split at h1
   ·rename_i v hv;exact⟨v,hv,h1,h2,h3⟩
   ·exact h1.elim
  ·exact zJt h4 t v' h
theorem zNL{A:Hp}{B:List Nat}{n:Nat}:∀{A':Hp},entA ρ A B n A'→∀i hl',lk A' i=some hl'→∃hl,lk A (rn ρ i)=some hl∧zD3 ρ B hl hl'∧i < n∧zS1 n hl'∧∃p∈A',p.1=i
 | [],_,t,v',h=>by cases h
 | (i,x) :: r,hL,t,v',h=>by
  obtain⟨h1,h2,h3,h4⟩:=hL
  simp only[lk] at h
  split at h
  ·rename_i e;subst e;cases h
   split at h1
   ·rename_i hl hv;exact⟨hl,hv,h1,h2,h3,(i,x),by simp,rfl⟩
   ·exact h1.elim
  ·obtain⟨hl,q1,q2,q3,q4,p,q5,q6⟩:=zNL h4 t v' h
   exact⟨hl,q1,q2,q3,q4,p,by simp[q5],q6⟩
theorem zId{α β:Type}{f:α→β}:∀{l:List α},(l.map f).Nodup→∀x∈l,∀y∈l,f x=f y→x=y
 | [],_,x,hx,_,_,_=>by cases hx
 | z :: l,h,x,hx,y,hy,e=>by
  simp only[List.map_cons,List.nodup_cons] at h
  rcases List.mem_cons.1 hx with hx1 | hx2<;>rcases List.mem_cons.1 hy with hy1 | hy2
  ·rw[hx1,hy1]
  ·subst hx1;exact absurd (List.mem_map.2 ⟨y,hy2,e.symm⟩) h.1
  ·subst hy1;exact absurd (List.mem_map.2 ⟨x,hx2,e⟩) h.1
  ·exact zId h.2 x hx2 y hy2 e
theorem zNN{A:Hp}{i:Nat}:i∈zR7 A↔∃hl,lk A i=some hl:=by
 induction A with
 | nil=>simp[zR7,lk]
 | cons p A ih=>
  obtain⟨h,x⟩:=p
  simp only[zR7,List.mem_cons,lk]
  by_cases e:h=i
  ·simp[e]
  ·simp only[if_neg e,←ih]
   exact⟨fun h=>h.resolve_left (Ne.symm e),.inr⟩
theorem zII{A:Hp}:∀{A':Hp},zKJ A A'→∀i hl,lk A' i=some hl→zNs A hl
 | [],_,i,hl,h=>by cases h
 | (j,x) :: r,hs,i,hl,h=>by
  simp only[lk] at h
  split at h
  ·cases h;exact hs.1
  ·exact zII hs.2 i hl h
theorem zFe{D:List Nat}{o:Own}{T:PTy}{es:List PV}{p:Pth}:∀{hl:HL},zD3 ρ D hl (.arr o T es p)→∃o' p',hl=.arr o' T es p'∧zLk ρ D o' o∧entP ρ p' p
 | .arr o' T' es' p',h=>by obtain⟨ho,rfl,rfl,hp⟩:=h;exact⟨_,_,rfl,ho,hp⟩
 | .dead,h=>by simp[zD3] at h
 | .box _ _ _,h=>by simp[zD3] at h
 | .abx _ _ _,h=>by simp[zD3] at h
 | .bld _ _ _,h=>by simp[zD3] at h
theorem zFd{D:List Nat}{ow:Bool}{t:TypeId}{cs:List SV}:∀{hl:HL},zD3 ρ D hl (.box ow t cs)→∃t' cs',hl=.box ow t' cs'∧zFR ρ cs' cs∧(t=t'∨t=0)
 | .box ow t' cs',h=>by obtain⟨rfl,h0,h⟩:=h;exact⟨_,_,rfl,h,h0⟩
 | .dead,h=>by simp[zD3] at h
 | .arr _ _ _ _,h=>by simp[zD3] at h
 | .abx _ _ _,h=>by simp[zD3] at h
 | .bld _ _ _,h=>by simp[zD3] at h
theorem zKt{D:List Nat}{ow:Bool}{T:PTy}{es:List PV}:∀{hl:HL},zD3 ρ D hl (.abx ow T es)→hl=.abx ow T es
 | .abx ow' T' es',h=>by obtain⟨rfl,rfl,rfl⟩:=h;rfl
 | .dead,h=>by simp[zD3] at h
 | .arr _ _ _ _,h=>by simp[zD3] at h
 | .box _ _ _,h=>by simp[zD3] at h
 | .bld _ _ _,h=>by simp[zD3] at h
theorem zOk{D:List Nat}{T e:Nat}{l:List UInt8}:∀{hl:HL},zD3 ρ D hl (.bld T e l)→hl=.bld T e l
 | .bld T' e' l',h=>by obtain⟨rfl,rfl,rfl⟩:=h;rfl
 | .dead,h=>by simp[zD3] at h
 | .arr _ _ _ _,h=>by simp[zD3] at h
 | .box _ _ _,h=>by simp[zD3] at h
 | .abx _ _ _,h=>by simp[zD3] at h
theorem zNK{D:List Nat}:∀{hl:HL},¬zD3 ρ D hl .dead
 | .arr o' T' es' _,h=>by simp[zD3] at h
 | .dead,h=>by simp[zD3] at h
 | .box _ _ _,h=>by simp[zD3] at h
 | .abx _ _ _,h=>by simp[zD3] at h
 | .bld _ _ _,h=>by simp[zD3] at h
theorem zBv{D:List Nat}{w:World}{g:GV}{β:Nat→GV}{f:List Nat}{hl hl':HL}(h:zD3 ρ D hl hl') :
  (yz w g β f hl→yz w g (fun h=>β (rn ρ h)) f hl')∧(∀b∈zH f hl',b∈zH f hl)∧(isA hl'→isA hl)∧(zFM f hl→zFM f hl')∧hl≠.dead∧(∀i∈D,rn ρ i∈zN hl→i∈zN hl')∧(∀r∈zN hl',r∈D∧rn ρ r∈zN hl):=by
 cases hl' with
 | dead=>exact(zNK h).elim
 | box ow t cs=>
  obtain⟨t',cs',rfl,q,_⟩:=zFd h
  refine⟨?_,fun b hb=>by cases ow with | true=>simpa[zH] using hb | false=>simp[zH] at hb,fun h=>by cases ow<;>exact h,fun _=>trivial,by simp,by simp[zN],by simp[zN]⟩
  rintro⟨b,t',s1,s2,s3⟩
  exact⟨b,t',s1,s2,by rw[zC3 β _ _ q];exact s3⟩
 | bld T e l=>
  have:=zOk h
  subst this
  exact⟨fun h=>h,fun b hb=>hb,fun h=>h,fun h=>h,by simp,by simp[zN],by simp[zN]⟩
 | abx ow T es=>
  have:=zKt h
  subst this
  exact⟨fun h=>h,fun b hb=>hb,fun h=>h,fun h=>h,by simp,by simp[zN],by simp[zN]⟩
 | arr o T es p=>
  obtain⟨o',p',rfl,ho,hpp⟩:=zFe h
  cases o' with
  | vw rs=>
   cases o<;>simp only[zLk] at ho
   rename_i rs'
   refine⟨fun h=>h,fun b hb=>by simp[zH] at hb,fun h=>h,fun h=>h,by simp,fun i hi hm=>yT.1 (ho.1 i hi (yT.2 hm)),fun r hr=>⟨yT.1 (ho.2 r hr).1,yT.1 (ho.2 r hr).2⟩⟩
  | sh=>
   cases o with
   | sh=>exact⟨fun h=>h,fun b hb=>hb,fun h=>h,fun h=>h,by simp,by simp[zN],by simp[zN]⟩
   | vw rs=>
    cases rs with
    | nil=>exact⟨fun h=>zGw.lv h,fun b hb=>by simp[zH] at hb,fun h=>h,fun _=>trivial,by simp,by simp[zN],by simp[zN]⟩
    | cons=>simp[zLk] at ho
   | _=>simp[zLk] at ho
  | cs k=>
   cases o<;>simp only[zLk] at ho
   subst ho
   exact⟨fun h=>h,fun b hb=>hb,fun h=>h,fun h=>h,by simp,by simp[zN],by simp[zN]⟩
  | dp=>
   cases o with
   | dp=>exact⟨fun h=>h,fun b hb=>hb,fun h=>h,fun h=>h,by simp,by simp[zN],by simp[zN]⟩
   | vw rs=>
    cases rs with
    | nil=>exact⟨fun h=>zCP.lv h,fun b hb=>by simp[zH] at hb,fun h=>h,fun _=>trivial,by simp,by simp[zN],by simp[zN]⟩
    | cons=>simp[zLk] at ho
   | cs k=>
    simp only[zLk] at ho
    subst ho
    refine⟨fun h=>?_,fun b hb=>hb,fun h=>h,fun h=>h,by simp,by simp[zN],by simp[zN]⟩
    rcases h with h | ⟨b,f1,cs,rfl,hr,hs,hv⟩
    ·exact .inl h
    ·exact .inr ⟨b,f1,[],cs,rfl,by simpa using hr,by simp,hs,by simpa using hv⟩
   | sh=>simp[zLk] at ho
theorem zNI(h:ent C.keep C.n0 ρ S T)(hat:At C S a w):At C T a w:=by
 obtain⟨e1,e2,e3,e4,e5,e6,e7⟩:=h
 obtain⟨kp,hn,β,ϕ,sat,h0⟩:=hat
 have hlk:=fun i hl' hi=>zNL e6 i hl' hi
 have inj:∀i j hl hl',lk T.A i=some hl→lk T.A j=some hl'→rn ρ i=rn ρ j→i=j:=by
  intro i j hl hl' hi hj e
  obtain⟨_,_,_,_,_,p,p1,p2⟩:=hlk i hl hi
  obtain⟨_,_,_,_,_,q,q1,q2⟩:=hlk j hl' hj
  have:=zId e4 p p1 q q1 (by rw[p2,q2];exact e)
  rw[←p2,←q2,this]
 refine⟨⟨fun t v h=>(zJt e5 t v h).elim fun _ q=>q.2.2.1,fun t x h=>by rw[e1] at h;cases h⟩,e2,fun h=>β (rn ρ h),fun h=>ϕ (rn ρ h),⟨sat.df,sat.sz,?_,?_,?_,?_,sat.fr,sat.gl⟩,?_⟩
 ·intro t v' ht
  obtain⟨v,q1,q2,q3,q4⟩:=zJt e5 t v' ht
  obtain⟨s1,s2,s3⟩:=sat.lp t v q1
  exact⟨by rw[zKs β v v' q2];exact s1,q4,zNJ β v v' q2 s3⟩
 ·intro t g v ht;rw[e1] at ht;cases ht
 ·refine⟨fun h=>sat.hp.pl _,?_,?_,?_,?_,?_,?_,?_⟩
  ·intro i hl' hi
   obtain⟨hl,q1,q2,q3,q4,_⟩:=hlk i hl' hi
   exact(zBv q2).1 (sat.hp.sat _ _ q1)
  ·intro i hl' hi b hb
   obtain⟨hl,q1,q2,q3,q4,_⟩:=hlk i hl' hi
   exact sat.hp.own _ _ q1 b ((zBv (w:=w) (g:=β 0) (β:=β) q2).2.1 b hb)
  ·intro i hl' hi ha b hb
   obtain⟨hl,q1,q2,q3,q4,_⟩:=hlk i hl' hi
   exact sat.hp.all _ _ q1 ((zBv (w:=w) (g:=β 0) (β:=β) (f:=[]) q2).2.2.1 ha) b hb
  ·intro i hl' hi
   obtain⟨hl,q1,q2,q3,q4,_⟩:=hlk i hl' hi
   exact(zBv (w:=w) (g:=β 0) (β:=β) q2).2.2.2.1 (sat.hp.nd _ _ q1)
  ·intro i j hl hl' hi hj hne hnv hdd b hb
   obtain⟨hl1,q1,q2,q3,q4,_⟩:=hlk i hl hi
   obtain⟨hl2,r1,r2,r3,r4,_⟩:=hlk j hl' hj
   have k1:=zBv (w:=w) (g:=β 0) (β:=β) (f:=ϕ (rn ρ i)) q2
   have k2:=zBv (w:=w) (g:=β 0) (β:=β) (f:=[]) r2
   exact sat.hp.dj _ _ _ _ q1 r1 (fun e=>hne (inj _ _ _ _ hi hj e)) (fun hm=>hnv (k2.2.2.2.2.2.1 i (zNN.2 ⟨_,hi⟩) hm)) k2.2.2.2.2.1 b (k1.2.1 b hb)
  ·intro i hl' hi
   obtain⟨hl,q1,q2,q3,q4,_⟩:=hlk i hl' hi
   have hsub:=zII e7 i hl' hi
   cases hl' with
   | arr o T' es p=>
    cases o with
    | vw rs=>
     cases p with
     | no=>trivial
     | el r i' j=>obtain⟨_,_,rfl,_,hp⟩:=zFe q2;exact hp.elim
     | sub r lo=>
      obtain⟨o1,p1,rfl,ho,hp⟩:=zFe q2
      simp only[entP] at hp
      subst hp
      simp only[zNs] at hsub
      obtain⟨hm,hd⟩:=hsub
      split at hd
      ·rename_i o2 T2 es2 p2 hr
       obtain⟨hl2,r1,r2,_⟩:=hlk r _ hr
       obtain⟨o3,p3,rfl,ho3,_⟩:=zFe r2
       cases o1 with
       | vw rs1=>
        have hpt:zFT S.A β w (β (rn ρ i)) rs1 T' es (.sub (rn ρ r) lo):=sat.hp.pt _ _ q1
        obtain⟨_,es3,p4,k1,k2,k3,k4⟩:=hpt
        have hT:T2=T'∧es2=es3:=by
         rcases k1 with k1 | k1<;>rw[r1] at k1<;>cases k1<;>exact⟨rfl,rfl⟩
        obtain⟨rfl,rfl⟩:=hT
        refine⟨yT.1 hm,es2,p2,?_,k2,k3,k4⟩
        cases o2<;>simp only at hd<;>first | exact .inl hr | exact .inr hr
       | sh=>cases rs with
        | nil=>simp[zAK] at hm
        | cons=>simp[zLk] at ho
       | dp=>cases rs with
        | nil=>simp[zAK] at hm
        | cons=>simp[zLk] at ho
       | cs k=>simp[zLk] at ho
      ·exact hd.elim
    | _=>trivial
   | box ow t cs=>
    obtain⟨t',cs',rfl,_,ht⟩:=zFd q2
    intro h0
    exact sat.hp.pt _ _ q1 (by rcases ht with rfl | rfl<;>first | exact h0 | exact absurd rfl h0)
   | abx ow T' es=>
    have:=zKt q2
    subst this
    exact sat.hp.pt _ _ q1
   | _=>trivial
  ·intro i hl' hi r hr o t cs hc
   obtain⟨hl,q1,q2,q3,q4,_⟩:=hlk i hl' hi
   obtain⟨_,k2⟩:=(zBv (w:=w) (g:=β 0) (β:=β) (f:=[]) q2).2.2.2.2.2.2 r hr
   obtain⟨hl0,r1,r2,_⟩:=hlk r _ hc
   obtain⟨t',cs',rfl,_,_⟩:=zFd r2
   exact sat.hp.rt _ _ q1 _ k2 _ _ _ r1
 ·intro i hl' hi
  obtain⟨hl,q1,q2,q3,q4,_⟩:=hlk i hl' hi
  refine⟨q3,?_⟩
  cases hl' with
  | box ow t cs=>
   obtain⟨t',cs',rfl,q5,_⟩:=zFd q2
   exact⟨q4,zEV β _ _ q5 (sat.hb _ _ q1).2.2⟩
  | arr o T' es p=>
   cases o<;>(try trivial)
   intro r hr
   obtain⟨k1,_⟩:=(zBv (w:=w) (g:=β 0) (β:=β) (f:=[]) q2).2.2.2.2.2.2 r hr
   obtain⟨hl0,k3⟩:=zNN.1 k1
   obtain⟨_,_,_,k4,_⟩:=hlk r _ k3
   exact k4
  | abx _ _ _=>trivial
  | bld _ _ _=>trivial
  | dead=>trivial
 ·intro h hh
  show β (rn ρ h)=_
  rw[zSi e3 hh]
  exact h0 h hh
theorem zKD{c:Code}{Y:Type}(st:Y→St)(Φ:Y→Prop)(μ:Y→Nat)(h0:∃y ρ,Φ y∧ent C.keep C.n0 ρ S (st y))
  (round:∀y,Φ y→WP C (.code c :: .post (fun S'=>∃y' ρ,Φ y'∧μ y' < μ y∧ent C.keep C.n0 ρ S' (st y')) :: k) (st y)):WP C (.code (.loop c) :: k) S:=by
 classical
 intro a w hat
 let M:Act→World→Nat→Prop:=fun a w n=>∃y,Φ y∧At C (st y) a w∧μ y=n
 have least:∀a w n,M a w n→∃m,M a w m∧∀j,M a w j→m≤j:=by
  intro a w n hn
  induction n using Nat.strongRecOn with
  | ind n ih=>
   by_cases h:∃j,M a w j∧j < n
   ·obtain⟨j,h1,h2⟩:=h;exact ih j h2 h1
   ·exact⟨n,hn,fun j hj=>Nat.le_of_not_lt fun hl=>h ⟨j,hj,hl⟩⟩
 let mu:Act→World→Nat:=fun a w=>if h:∃m,M a w m∧∀j,M a w j→m≤j then h.choose else 0
 refine wp_loop (fun a w=>∃y,Φ y∧At C (st y) a w) mu ?_ ?_
 ·obtain⟨y,ρ,h1,h2⟩:=h0
  exact⟨y,h1,zNI h2 hat⟩
 ·intro a w ⟨y,hy,hay⟩
  have hex:=least a w _ ⟨y,hy,hay,rfl⟩
  have hmu:mu a w=hex.choose:=dif_pos hex
  obtain⟨⟨y1,hy1,hay1,he1⟩,hmin⟩:=hex.choose_spec
  have hr:=round y1 hy1 a w hay1
  refine Code.wp_mono ?_ hr
  intro e a' w' hq
  cases e with
  | normal=>
   obtain⟨S',hS',y',ρ,p1,p2,p3⟩:=hq
   have hay':=zNI p3 hS'
   refine⟨⟨y',p1,hay'⟩,?_⟩
   have hex':=least a' w' _ ⟨y',p1,hay',rfl⟩
   have hmu':mu a' w'=hex'.choose:=dif_pos hex'
   have:=hex'.choose_spec.2 _ ⟨y',p1,hay',rfl⟩
   rw[hmu,hmu',←he1]
   omega
  | _=>exact hq
theorem zEf{k1 k2:List KI}(h:∀e a w,xt C k1 e a w→xt C k2 e a w):∀(l:List KI) e a w,xt C (l++k1) e a w→xt C (l++k2) e a w
 | [],e,a,w,hx=>h e a w hx
 | .code c :: l,e,a,w,hx=>by
  have ih:=zEf h l
  cases e<;>first | exact Code.wp_mono (fun e a w q=>ih e a w q) hx | exact ih _ _ _ hx
 | .blk i :: l,e,a,w,hx=>by
  have ih:=zEf h l
  cases e with
  | exit j=>
   simp only[List.cons_append,xt,Exit.inBlock] at hx ⊢
   split
   ·rename_i e;rw[if_pos e] at hx;exact ih _ _ _ hx
   ·rename_i e;rw[if_neg e] at hx;exact ih _ _ _ hx
  | _=>exact ih _ _ _ hx
 | .post p :: l,e,a,w,hx=>by
  have ih:=zEf h l
  cases e<;>first | exact hx | exact ih _ _ _ hx
 | .run all m :: l,e,a,w,hx=>by
  have ih:=zEf h l
  cases e with
  | normal=>
   have mono:∀(m:List Oper) a w,wpList C.P all.toArray (xt C (l++k1)) m a w→wpList C.P all.toArray (xt C (l++k2)) m a w:=by
    intro m
    induction m with
    | nil=>intro a w h;exact ih _ _ _ h
    | cons o m ihm=>
     intro a w h
     unfold wpList at h ⊢
     split
     ·rename_i hw
      rw[if_pos hw] at h
      rcases h with h | ⟨h,a',w',hl⟩
      ·refine .inl ?_
       unfold Oper.wp at *
       generalize (execOp a.eval o).run C.P w=r at *
       cases r with
       | ok n w'=>
        cases n<;>simp only[Oper.upon] at h ⊢ <;>
         first
          | exact ihm _ _ h
          | exact Calls.mono h (fun e w'' he=>by cases e<;>first | exact ihm _ _ he | exact ih _ _ _ he | (obtain⟨a',w',he⟩:=he;exact⟨a',w',ih _ _ _ he⟩))
          | exact Rows.mono h (fun _ _ he=>ihm _ _ he)
       | halt x w'=>cases x<;>simp only[Oper.upon] at h ⊢<;>exact ih _ _ _ h
      ·exact .inr ⟨h,a',w',ih _ _ _ hl⟩
     ·rename_i hw
      rw[if_neg hw] at h
      exact ihm _ _ h
   exact mono m a w hx
  | _=>exact ih _ _ _ hx
theorem zPJ{p:St→Prop}(l:List KI)(h1:WP C (l++.post p :: k) S)(h2:∀S',p S'→WP C k S'):WP C (l++k) S:=by
 intro a w hat
 refine zEf (k1:=.post p :: k) ?_ l _ _ _ (h1 a w hat)
 intro e a w hx
 cases e with
 | normal=>obtain⟨S',h,hp⟩:=hx;exact h2 S' hp a w h
 | _=>exact hx
theorem zPI(h:ent C.keep C.n0 ρ S T)(h1:WP C k T):WP C k S:=fun a w hat=>h1 a w (zNI h hat)
def zR3(all:List Oper):Nat→List Bool→List (List Nat)
 | 0,_=>[[]]
 | f+1,m=>match (List.range all.length).filter fun i=>!(m.getD i true)&&(match all[i]? with | some o=>o.after.toList.all fun e=>!Region.binds .any e || m.getD e.on false | none=>false) with
  | []=>[[]]
  | r=>r.flatMap fun i=>(zR3 all f (m.set i true)).map fun l=>i :: l
def zCu(all:List Oper)(l:List Nat):List Oper:=l.filterMap fun i=>all[i]?
theorem zMd(all:List Oper):∀(f t:Nat) (m:List Bool),Region.linearise.go .any all.toArray f t m.toArray []∈zR3 all f m:=by
 intro f
 induction f with
 | zero=>intro t m;simp[Region.linearise.go,zR3]
 | succ f ih=>
  intro t m
  have hrs:((List.range all.toArray.size).filter fun i=>!m.toArray.getD i true&&((all.toArray[i]?).map (·.after.all fun e=>!Region.binds .any e || m.toArray.getD e.on false)).getD false)
    = (List.range all.length).filter fun i=>!(m.getD i true)&&(match all[i]? with | some o=>o.after.toList.all fun e=>!Region.binds .any e || m.getD e.on false | none=>false):=by
   simp only[List.size_toArray]
   apply List.filter_congr
   intro i _
   cases h:all[i]?<;>simp[h]
  simp only[Region.linearise.go,zR3]
  rw[hrs]
  generalize ((List.range all.length).filter fun i=>!(m.getD i true)&&(match all[i]? with | some o=>o.after.toList.all fun e=>!Region.binds .any e || m.getD e.on false | none=>false))=r
  cases r with
  | nil=>simp
  | cons x xs=>
   have hlt:t % (x :: xs).length < (x :: xs).length:=Nat.mod_lt _ (by simp)
   have hg:=List.getElem?_eq_getElem hlt
   rw[hg]
   simp only
   rw[linearise_go_acc,List.reverse_singleton,List.singleton_append]
   refine List.mem_flatMap.2 ⟨_,List.getElem_mem hlt,List.mem_map.2 ⟨_,?_,rfl⟩⟩
   have:=ih (t / (x :: xs).length) (m.set ((x :: xs)[t % (x :: xs).length]) true)
   simpa using this
theorem zGy{P:Program}{all:List Oper}{Q:Exit→Act→World→Prop}:∀(l:List Nat),wpOps P all.toArray Q l=wpList P all.toArray Q (zCu all l)
 | []=>by funext a w;simp[wpOps,zCu,wpList]
 | i :: l=>by
  have ih:=zGy (P:=P) (all:=all) (Q:=Q) l
  funext a w
  cases h:all[i]? with
  | none=>simp[wpOps,zCu,h,ih]
  | some o=>
   have:zCu all (i :: l)=o :: zCu all l:=by simp[zCu,h]
   rw[this]
   simp[wpOps,h,wpList,ih]
theorem zPl{id:Nat}{ops:Array Oper}(hC:C.Ok)(h:∀l∈zR3 ops.toList ops.toList.length (List.replicate ops.toList.length false),WP C (.run ops.toList (zCu ops.toList l) :: k) { S with Lt:=[] }):WP C (.code (.region id ops true) :: k) S:=by
 intro a w hat
 refine wp_region_draw fun t=>?_
 have ho:=zMd ops.toList ops.size t (List.replicate ops.size false)
 have h1:=h _ (by simpa using ho) a _ (zNY (zJ3 hat))
 have h2:wpList C.P ops.toList.toArray (xt C k) _ a _:=h1
 have h3:Region.schedule (C.P.follows .mixedOrders) ops t=Region.linearise.go .any ops.toList.toArray ops.size t (List.replicate ops.size false).toArray []:=by
  simp only[Region.schedule,hC.mix,Bool.true_or,if_true,Region.linearise]
  simp
 rw[h3]
 have h4:=zGy (P:=C.P) (all:=ops.toList) (Q:=xt C k) (Region.linearise.go .any ops.toList.toArray ops.size t (List.replicate ops.size false).toArray [])
 simp only[Array.toArray_toList] at h4 h2 ⊢
 rw[h4]
 exact h2
end
inductive It where
 | sl (t:Nat) (o:Own) (T:PTy)
 | bx (t:Nat) (Ts:List PTy)
 | ar (t:Nat) (T:PTy)
 | bl (t:Nat)
 | ax (t:Nat)
 | bs (t:Nat) (Ts:List PTy)
 | nb (t bt:Nat) (Ts:List PTy)
 | fx (t:Nat) (Ts:List PTy)
 | cu (t:Nat)
def zGO(S:St):List It→Option (Prop × List PV)
 | []=>some (True,[])
 | .sl t _ T :: r=>match lk S.Lp t with
  | some x=>(match yR S.A T x,zGO S r with | some (o,p),some (o',ps)=>some (o∧o',p :: ps) | _,_=>none)
  | none=>none
 | .bx t Ts :: r=>match lk S.Lp t with
  | some (.ptr h _)=>(match lk S.A h with
   | some (.box _ _ cs)=>(match zw S.A Ts cs,zGO S r with | some (o,p),some (o',ps)=>some (o∧o',.agg p :: ps) | _,_=>none)
   | _=>none)
  | _=>none
 | .bs t Ts :: r=>match lk S.Lp t with
  | some (.ptr h _)=>(match lk S.A h with
   | some (.box _ _ cs)=>(match zw S.A Ts cs,zGO S r with | some (o,p),some (o',ps)=>some (o∧o',.agg p :: ps) | _,_=>none)
   | _=>none)
  | _=>none
 | .fx t Ts :: r=>match lk S.Lp t with
  | some (.ptr h _)=>(match lk S.A h with
   | some (.box _ _ cs)=>(match zw S.A Ts cs,zGO S r with | some (o,p),some (o',ps)=>some (o∧o',.agg p :: ps) | _,_=>none)
   | _=>none)
  | _=>none
 | .nb t _ Ts :: r=>match lk S.Lp t with
  | some (.ptr h _)=>(match lk S.A h with
   | some (.box _ _ cs)=>(match zw S.A Ts cs,zGO S r with | some (o,p),some (o',ps)=>some (o∧o',.agg p :: ps) | _,_=>none)
   | _=>none)
  | _=>none
 | .ar t T :: r=>match lk S.Lp t with
  | some (.sl h)=>(match yR S.A (.list T) (.sl h),zGO S r with | some (o,p),some (o',ps)=>some (o∧o',p :: ps) | _,_=>none)
  | _=>none
 | .bl t :: r=>match lk S.Lp t with
  | some (.ptr h 0)=>(match lk S.A h,zGO S r with | some (.bld _ _ l),some (o',ps)=>some (o',.str l :: ps) | _,_=>none)
  | _=>none
 | .ax t :: r=>match lk S.Lp t with
  | some (.ptr h 0)=>(match lk S.A h,zGO S r with | some (.abx _ _ es),some (o',ps)=>some (o',.list es :: ps) | _,_=>none)
  | _=>none
 | .cu t :: r=>match lk S.Lp t with
  | some (.sl h)=>(match lk S.A h,zGO S r with | some (.arr (.cs k) _ _ _),some (o',ps)=>some (o',.int .i64 k :: ps) | some (.arr .dp _ _ _),some (o',ps)=>some (o',.int .i64 0 :: ps) | _,_=>none)
  | _=>none
mutual
def hsV:SV→List Nat
 | .sl h=>[h]
 | .ptr h _=>[h]
 | .elp h _ _ _=>[h]
 | .agg xs=>zR5 xs
 | .tup xs=>zR5 xs
 | .fn _ xs=>zR5 xs
 | _=>[]
def zR5:List SV→List Nat
 | []=>[]
 | x :: xs=>hsV x++zR5 xs
end
def zC1:List It→List Nat
 | []=>[]
 | .sl t _ _ :: r=>t :: zC1 r
 | .nb t _ _ :: r=>t :: zC1 r
 | _ :: r=>zC1 r
def yd(S:St):List It→List Nat
 | []=>[]
 | .bx t _ :: r=>match lk S.Lp t with | some (.ptr h _)=>h :: yd S r | _=>yd S r
 | .bs t _ :: r=>match lk S.Lp t with | some (.ptr h _)=>h :: yd S r | _=>yd S r
 | .fx t _ :: r=>match lk S.Lp t with | some (.ptr h _)=>h :: yd S r | _=>yd S r
 | .ar t _ :: r=>match lk S.Lp t with | some (.sl h)=>h :: yd S r | _=>yd S r
 | .bl t :: r=>match lk S.Lp t with | some (.ptr h _)=>h :: yd S r | _=>yd S r
 | .ax t :: r=>match lk S.Lp t with | some (.ptr h _)=>h :: yd S r | _=>yd S r
 | .cu t :: r=>match lk S.Lp t with | some (.sl h)=>h :: yd S r | _=>yd S r
 | _ :: r=>yd S r
def zJu(ms:List Nat):List (Nat × SV)→List (Nat × SV)
 | []=>[]
 | (t,v) :: r=>if zAK ms t then zJu ms r else (t,v) :: zJu ms r
def hsL:List (Nat × SV)→List Nat
 | []=>[]
 | (_,v) :: r=>hsV v++hsL r
def hsA(A:Hp)(bs:List Nat):List Nat→List Nat
 | []=>[]
 | h :: r=>(if zAK bs h then [] else match lk A h with | some (.box _ _ cs)=>zR5 cs | _=>[])++hsA A bs r
def zOE(R:List Nat):List Nat→List Nat
 | []=>[]
 | r :: l=>if zAK R r then r :: zOE R l else zOE R l
def gcH(R:List Nat):HL→HL
 | .arr (.vw rs) T es _=>.arr (.vw (zOE R rs)) T es .no
 | .arr o T es _=>.arr o T es .no
 | x=>x
def gcA(R bs:List Nat):Hp→Hp
 | []=>[]
 | (h,x) :: r=>if zAK R h&&!zAK bs h then (match x with | .dead=>gcA R bs r | x=>(h,gcH R x) :: gcA R bs r) else gcA R bs r
def zKi(S:St):List It→List Nat
 | []=>[]
 | .bs t _ :: r=>(match lk S.Lp t with | some (.ptr h _)=>(match lk S.A h with | some (.box _ _ cs)=>zZ cs | _=>[]) | _=>[])++zKi S r
 | _ :: r=>zKi S r
def zM5(S:St)(its:List It):List Nat:=
 zKi S its++hsL (zJu (zC1 its) S.Lp)++hsA S.A (yd S its) (hsL (zJu (zC1 its) S.Lp))++hsA S.A (yd S its) (hsA S.A (yd S its) (hsL (zJu (zC1 its) S.Lp)))
def zGQ(S0 T:St):List It→List PV→St
 | .sl t o ty :: r,p :: ps=>zGQ S0 ⟨T.Lp++[(t,(z8 o noP 0 T.n ty p).1)],[],(z8 o noP 0 T.n ty p).2.1++T.A,(z8 o noP 0 T.n ty p).2.2⟩ r ps
 | .nb t bt Ts :: r,p :: ps=>zGQ S0 ⟨T.Lp++[(t,.ptr (zB .dp noP 0 T.n Ts p.A).2.2 0)],[],((zB .dp noP 0 T.n Ts p.A).2.2,.box true bt (zB .dp noP 0 T.n Ts p.A).1) :: ((zB .dp noP 0 T.n Ts p.A).2.1++T.A),(zB .dp noP 0 T.n Ts p.A).2.2+1⟩ r ps
 | .bx t Ts :: r,p :: ps=>match lk S0.Lp t with
  | some (.ptr h _)=>(match lk S0.A h with
   | some (.box ow bt _)=>zGQ S0 ⟨T.Lp,[],(h,.box ow bt (zB .dp noP 0 T.n Ts p.A).1) :: ((zB .dp noP 0 T.n Ts p.A).2.1++T.A),(zB .dp noP 0 T.n Ts p.A).2.2⟩ r ps
   | _=>T)
  | _=>T
 | .fx t Ts :: r,p :: ps=>match lk S0.Lp t with
  | some (.ptr h _)=>(match lk S0.A h with
   | some (.box ow bt _)=>zGQ S0 ⟨T.Lp,[],(h,.box ow bt (zB (.vw []) noP 0 T.n Ts p.A).1) :: ((zB (.vw []) noP 0 T.n Ts p.A).2.1++T.A),(zB (.vw []) noP 0 T.n Ts p.A).2.2⟩ r ps
   | _=>T)
  | _=>T
 | .bs t Ts :: r,p :: ps=>match lk S0.Lp t with
  | some (.ptr h _)=>(match lk S0.A h with
   | some (.box ow bt cs)=>zGQ S0 ⟨T.Lp,[],(h,.box ow bt (zCa Ts cs p.A)) :: T.A,T.n⟩ r ps
   | _=>T)
  | _=>T
 | .ar t E :: r,p :: ps=>match lk S0.Lp t with
  | some (.sl h)=>zGQ S0 ⟨T.Lp,[],(h,.arr .dp E p.L .no) :: T.A,T.n⟩ r ps
  | _=>T
 | .bl t :: r,p :: ps=>match lk S0.Lp t with
  | some (.ptr h _)=>(match lk S0.A h with
   | some (.bld B e _)=>zGQ S0 ⟨T.Lp,[],(h,.bld B e p.S) :: T.A,T.n⟩ r ps
   | _=>T)
  | _=>T
 | .ax t :: r,p :: ps=>match lk S0.Lp t with
  | some (.ptr h _)=>(match lk S0.A h with
   | some (.abx ow E _)=>zGQ S0 ⟨T.Lp,[],(h,.abx ow E p.L) :: T.A,T.n⟩ r ps
   | _=>T)
  | _=>T
 | .cu t :: r,p :: ps=>match lk S0.Lp t with
  | some (.sl h)=>(match lk S0.A h with
   | some (.arr _ E es _)=>zGQ S0 ⟨T.Lp,[],(h,.arr (.cs p.I.toNat) E es .no) :: T.A,T.n⟩ r ps
   | _=>T)
  | _=>T
 | _,_=>T
def zQQ(S:St)(its:List It)(ps:List PV):St:=
 zGQ S ⟨zJu (zC1 its) S.Lp,[],gcA (zM5 S its) (yd S its) S.A,S.n⟩ its ps
mutual
def mr:SV→SV→List (Nat × Nat)
 | .sl h',.sl h=>if h'=h then [] else [(h',h)]
 | .agg xs,.agg ys=>mrs xs ys
 | .tup xs,.tup ys=>mrs xs ys
 | _,_=>[]
def mrs:List SV→List SV→List (Nat × Nat)
 | x :: xs,y :: ys=>mr x y++mrs xs ys
 | _,_=>[]
end
def zGP(T S:St):List It→List (Nat × Nat)
 | []=>[]
 | .sl t _ _ :: r=>(match lk T.Lp t,lk S.Lp t with | some x,some y=>mr x y | _,_=>[])++zGP T S r
 | .bx t _ :: r=>(match lk T.Lp t with | some (.ptr h _)=>(match lk T.A h,lk S.A h with | some (.box _ _ xs),some (.box _ _ ys)=>mrs xs ys | _,_=>[]) | _=>[])++zGP T S r
 | .fx t _ :: r=>(match lk T.Lp t with | some (.ptr h _)=>(match lk T.A h,lk S.A h with | some (.box _ _ xs),some (.box _ _ ys)=>mrs xs ys | _,_=>[]) | _=>[])++zGP T S r
 | .nb t _ _ :: r=>(match lk T.Lp t,lk S.Lp t with | some (.ptr h _),some (.ptr h' _)=>(match lk T.A h,lk S.A h' with | some (.box _ _ xs),some (.box _ _ ys)=>(if h=h' then [] else [(h,h')])++mrs xs ys | _,_=>[]) | _,_=>[])++zGP T S r
 | .bs _ _ :: r=>zGP T S r
 | .ar _ _ :: r=>zGP T S r
 | .bl _ :: r=>zGP T S r
 | .ax _ :: r=>zGP T S r
 | .cu _ :: r=>zGP T S r
def zQR(keep:List Nat)(n0:Nat)(S:St)(its:List It)(Φ:List PV→Prop)(S':St):Prop:=
 match zGO S' its with
 | some (o,ps)=>o∧Φ ps∧ent keep n0 (zGP (zQQ S its ps) S' its) S' (zQQ S its ps)
 | none=>False
theorem zJn{keep:List Nat}{n0:Nat}{S S':St}{its:List It}{Φ:List PV→Prop}(h:zQR keep n0 S its Φ S'):∃ps ρ,Φ ps∧ent keep n0 ρ S' (zQQ S its ps):=by
 unfold zQR at h
 split at h
 ·exact⟨_,_,h.2.1,h.2.2⟩
 ·exact h.elim
structure zI4 (E:Env) (N:Nat) (keep:List Nat) (n0:Nat) (fin:St→Prop) (W:List KI→St→Prop):Prop where
 vc:∀(pls:List (Nat × List Nat × Pl)) (k:List KI) (S:St),vcK E N keep fin W pls [] k S→W k S
 loop:∀(c:Code) (k:List KI) (S:St) (Y:Type) (st:Y→St) (Φ:Y→Prop) (μ:Y→Nat),(∃y ρ,Φ y∧ent keep n0 ρ S (st y)) →
  (∀y,Φ y→W (.code c :: .post (fun S'=>∃y' ρ,Φ y'∧μ y' < μ y∧ent keep n0 ρ S' (st y')) :: k) (st y))→W (.code (.loop c) :: k) S
 loopS:∀(c:Code) (k:List KI) (S:St) (its:List It) (Φ:List PV→Prop) (μ:List PV→Nat),zQR keep n0 S its Φ S →
  (∀ys,Φ ys→W (.code c :: .post (zQR keep n0 S its fun ps=>Φ ps∧μ ps < μ ys) :: k) (zQQ S its ys))→W (.code (.loop c) :: k) S
 cutS:∀(l k:List KI) (S:St) (its:List It) (Φ:List PV→Prop),W (l++.post (zQR keep n0 S its Φ) :: k) S→(∀ys,Φ ys→W k (zQQ S its ys))→W (l++k) S
 cut:∀(l k:List KI) (S:St) (p:St→Prop),W (l++.post p :: k) S→(∀S',p S'→W k S')→W (l++k) S
 ent:∀(k:List KI) (S T:St) (ρ:List (Nat × Nat)),ent keep n0 ρ S T→W k T→W k S
 draw:∀(id:Nat) (ops:Array Oper) (k:List KI) (S:St),(∀l∈zR3 ops.toList ops.toList.length (List.replicate ops.toList.length false),W (.run ops.toList (zCu ops.toList l) :: k) { S with Lt:=[] }) →
  W (.code (.region id ops true) :: k) S
theorem zHe{C:Cx}(hC:C.Ok):zI4 C.E C.N C.keep C.n0 C.fin (WP C):=by
 refine⟨fun pls k S h=>zIF hC (fun _ _ h=>h) _ k S (Nat.le_refl _) h,fun c k S Y st Φ μ h0 hr=>zKD st Φ μ h0 hr,fun c k S its Φ μ h0 hr=>?_,fun l k S its Φ h1 h2=>?_,fun l k S p h1 h2=>zPJ l h1 h2,fun k S T ρ h h1=>zPI h h1,
  fun id ops k S h=>zPl hC h⟩
 ·refine zKD (Y:=List PV) (zQQ S its) Φ μ (zJn h0) fun y hy=>?_
  have h1:=hr y hy
  intro a w hat
  have:=h1 a w hat
  refine zEf (k1:=.post (zQR C.keep C.n0 S its fun ps=>Φ ps∧μ ps < μ y) :: k) ?_ [.code c] _ _ _ this
  intro e a w hx
  cases e with
  | normal=>
   obtain⟨S',h,hp⟩:=hx
   obtain⟨ps,ρ,q1,q2⟩:=zJn hp
   exact⟨S',h,ps,ρ,q1.1,q1.2,q2⟩
  | _=>exact hx
 ·refine zPJ l h1 fun S' hS'=>?_
  obtain⟨ps,ρ,q1,q2⟩:=zJn hS'
  exact zPI q2 (h2 ps q1)
end
section
variable [ze]
def zAa(n:Nat):PTy→PV→SV × Hp × Nat
 | .box ts,p=>(.ptr (zB (.vw []) noP 0 n ts p.A).2.2 0,((zB (.vw []) noP 0 n ts p.A).2.2,.box false 0 (zB (.vw []) noP 0 n ts p.A).1) :: (zB (.vw []) noP 0 n ts p.A).2.1,(zB (.vw []) noP 0 n ts p.A).2.2+1)
 | .abx T,p=>(.ptr n 0,[(n,.abx false T p.L)],n+1)
 | .agg ts,p=>(.agg (zB (.vw []) noP 0 n ts p.A).1,(zB (.vw []) noP 0 n ts p.A).2.1,(zB (.vw []) noP 0 n ts p.A).2.2)
 | T,p=>((zB (.vw []) noP 0 n [T] [p]).1.headD .nilp,(zB (.vw []) noP 0 n [T] [p]).2.1,(zB (.vw []) noP 0 n [T] [p]).2.2)
def zAW(n:Nat):List PTy→List PV→List SV × Hp × Nat
 | t :: ts,p :: ps=>((zAa n t p).1 :: (zAW (zAa n t p).2.2 ts ps).1,(zAW (zAa n t p).2.2 ts ps).2.1++(zAa n t p).2.1,(zAW (zAa n t p).2.2 ts ps).2.2)
 | _,_=>([],[],n)
def zGU(n:Nat):PTy→PV→SV × Hp × Nat
 | .fn f ts,p=>(.fn f (zAW n ts p.A).1,(zAW n ts p.A).2.1,(zAW n ts p.A).2.2)
 | T,p=>zAa n T p
def zDh(n:Nat):PTy→PV→SV × Hp × Nat
 | .box ts,p=>(.ptr (zB .dp noP 0 n ts p.A).2.2 0,((zB .dp noP 0 n ts p.A).2.2,.box true 0 (zB .dp noP 0 n ts p.A).1) :: (zB .dp noP 0 n ts p.A).2.1,(zB .dp noP 0 n ts p.A).2.2+1)
 | .abx T,p=>(.ptr n 0,[(n,.abx true T p.L)],n+1)
 | _,_=>(.nilp,[],n)
def zFF(n:Nat):PTy→PV→SV × Hp × Nat
 | .box ts,p=>(.ptr (zB (.vw []) noP 0 n ts p.A).2.2 0,((zB (.vw []) noP 0 n ts p.A).2.2,.box true 0 (zB (.vw []) noP 0 n ts p.A).1) :: (zB (.vw []) noP 0 n ts p.A).2.1,(zB (.vw []) noP 0 n ts p.A).2.2+1)
 | _,_=>(.nilp,[],n)
def zFE(n:Nat):Md→PTy→PV→SV × Hp × Nat
 | .rd,T,p=>zGU n T p
 | .mt,T,p=>z8 .dp noP 0 n T p
 | .ow,T,p=>z8 .dp noP 0 n T p
 | .bx,T,p=>zDh n T p
 | .bs,T,p=>zFF n T p
def zg(n:Nat):List (Md × PTy)→List PV→List SV × Hp × Nat
 | (m,t) :: ts,p :: ps=>((zFE n m t p).1 :: (zg (zFE n m t p).2.2 ts ps).1,(zg (zFE n m t p).2.2 ts ps).2.1++(zFE n m t p).2.1,(zg (zFE n m t p).2.2 ts ps).2.2)
 | _,_=>([],[],n)
mutual
def Ty:PTy→PV→Prop
 | .int k,p=>∃n,p=.int k n∧inR k n
 | .bool,p=>∃b,p=.bool b
 | .str,p=>∃l,p=.str l∧l.length≤LIM
 | .list T,p=>∃es,p=.list es∧es.length≤LIM∧∀e∈es,Ty T e
 | .agg ts,p=>∃qs,p=.agg qs∧Tys ts qs
 | .box ts,p=>∃qs,p=.agg qs∧Tys ts qs
 | .abx T,p=>∃es,p=.list es∧∀e∈es,Ty T e
 | .fn _ ts,p=>∃qs,p=.agg qs∧Tys ts qs
 | .opq,_=>True
def Tys:List PTy→List PV→Prop
 | [],ps=>ps=[]
 | t :: ts,ps=>∃p qs,ps=p :: qs∧Ty t p∧Tys ts qs
end
def TyA:List (Md × PTy)→List PV→Prop
 | [],ps=>ps=[]
 | (_,t) :: ts,ps=>∃p qs,ps=p :: qs∧Ty t p∧TyA ts qs
section
variable {P:Program} {E:Env} {N:Nat} {w0:World} {X F:List Nat} {S:St} {β:Nat→GV} {ϕ:Nat→List Nat} {a:Act} {w w':World} {o:Oper} {R:RR} {A:Hp} {B:Nat}
theorem zHV:∀{ts ts':List PTy} {ps ps':List PV},ts.length=ps.length→(Tys (ts++ts') (ps++ps')↔Tys ts ps∧Tys ts' ps')
 | [],ts',[],ps',_=>by simp[Tys]
 | [],ts',p :: ps,ps',h=>by simp at h
 | t :: ts,ts',[],ps',h=>by simp at h
 | t :: ts,ts',p :: ps,ps',h=>by
  have ih:=zHV (ts:=ts) (ts':=ts') (ps:=ps) (ps':=ps') (by simpa using h)
  simp only[List.cons_append,Tys]
  constructor
  ·rintro⟨_,_,e,h1,h2⟩
   cases e
   obtain⟨h3,h4⟩:=ih.1 h2
   exact⟨⟨_,_,rfl,h1,h3⟩,h4⟩
  ·rintro⟨⟨_,_,e,h1,h2⟩,h3⟩
   cases e
   exact⟨_,_,rfl,h1,ih.2 ⟨h2,h3⟩⟩
theorem zGm{T:PTy}(hT:∀t∈T.leaves,t.leaves=[t]):∀(es:List PV),(∀e∈es,Shp T e)→Tys (za T es.length) (zV es)→∀e∈es,Ty T e
 | [],_,_,e,he=>by cases he
 | p :: es,hs,h,e,he=>by
  have hs1:=hs p (by simp)
  have e1:za T (p :: es).length=T.leaves++za T es.length:=by simp[za,List.replicate_succ]
  have e2:zV (p :: es)=p.leaves++zV es:=by simp[zV]
  have hlen:T.leaves.length=p.leaves.length:=by
   cases T<;>simp only[Shp] at hs1
   case agg ts=>obtain⟨qs,rfl,hq⟩:=hs1;simp[PTy.leaves,PV.leaves,hq]
   all_goals (cases p<;>simp[PTy.leaves,PV.leaves] at hs1 ⊢)
  rw[e1,e2,zHV hlen] at h
  rcases List.mem_cons.1 he with rfl | he
  ·have h1:=h.1
   cases T<;>simp only[Shp] at hs1
   case agg ts=>obtain⟨qs,rfl,hq⟩:=hs1;exact⟨qs,rfl,h1⟩
   all_goals (cases e<;>simp only[PTy.leaves,PV.leaves,Tys] at h1 hs1<;>first | (obtain⟨_,_,e,h1,_⟩:=h1;cases e;exact h1) | exact absurd rfl (hs1 _))
  ·exact zGm hT es (fun e he=>hs e (by simp[he])) h.2 e he
theorem Lv.tys{w:World}{Ts:List PTy}{ps:List PV}{vs:List Value}{fp:List Nat}(h:Lv w Ts ps vs fp):Tys Ts ps:=by
 induction h with
 | nil=>simp[Tys]
 | int h1 _ ih=>exact⟨_,_,rfl,⟨_,rfl,h1⟩,ih⟩
 | bool _ ih=>exact⟨_,_,rfl,⟨_,rfl⟩,ih⟩
 | str h1 _ ih=>exact⟨_,_,rfl,⟨_,rfl,h1⟩,ih⟩
 | empty _ ih=>exact⟨_,_,rfl,⟨[],rfl,by simp,by simp⟩,ih⟩
 | @list T es b o cap c t fr cs f1 Ts ps vs fp hb hs hl hv hc _ ih1 ih2=>
  refine⟨_,_,rfl,⟨es,rfl,hl.1,?_⟩,ih2⟩
  intro e he
  have hT:∀t∈T.leaves,t.leaves=[t]:=by
   intro t ht
   refine hv.ty_of t ?_
   simp only[za,List.mem_flatten,List.mem_replicate]
   exact⟨T.leaves,⟨(by intro h0;have:=List.length_eq_zero_iff.1 h0;subst this;cases he),rfl⟩,ht⟩
  exact zGm hT es hs ih1 e he
theorem zOg{w:World}{T:PTy}{es:List PV}{cs:List Value}{f:List Nat}(hT:zBU T=true)(hs:∀e∈es,Shp T e)(h:Lv w (za T es.length) (zV es) cs f):∀e∈es,Ty T e:=by
 intro e he
 have hT:∀t∈T.leaves,t.leaves=[t]:=by
  intro t ht
  refine h.ty_of t ?_
  simp only[za,List.mem_flatten,List.mem_replicate]
  exact⟨T.leaves,⟨(by intro h0;have:=List.length_eq_zero_iff.1 h0;subst this;cases he),rfl⟩,ht⟩
 exact zGm hT es hs h.tys e he
theorem zAR.tys{T:PTy}{es:List PV}{v:Value}{f:List Nat}(h:zAR w T es v f):∀e∈es,Ty T e:=by
 rcases h with ⟨h1,h2,b,t,c,_,_,_,h3⟩ | ⟨rfl,_⟩
 ·exact zOg h1 h2 h3
 ·intro e _;simp[Ty]
theorem zPH.ty{T:PTy}{p:PV}{v:Value}{f fl:List Nat}(h:zPH w T p v f fl):Ty T p:=by
 have leaf:Lv w [T] [p] [v] f→Ty T p:=fun hL=>by
  have:=hL.tys
  simp only[Tys] at this
  obtain⟨_,_,e,h1,_⟩:=this
  cases e
  exact h1
 cases T with
 | agg ts=>obtain⟨qs,cs,rfl,_,hL,_⟩:=h;exact⟨qs,rfl,hL.tys⟩
 | box ts=>obtain⟨qs,cs,b,t,pre,post,rfl,_,_,hL,_⟩:=h;exact⟨qs,rfl,hL.tys⟩
 | abx T=>obtain⟨es,rfl,h,_⟩:=h;exact⟨es,rfl,h.tys⟩
 | fn _ _=>exact h.elim
 | _=>exact leaf h.1
theorem zI9.tys{ts:List PTy}{ps:List PV}{vs:List Value}{f fl:List Nat}(h:zI9 w ts ps vs f fl):Tys ts ps:=by
 induction h with
 | nil=>simp[Tys]
 | cons h1 _ ih=>exact⟨_,_,rfl,h1.ty,ih⟩
theorem zPj.ty{T:PTy}{p:PV}{v:Value}{f fl:List Nat}(h:zPj w T p v f fl):Ty T p:=by
 cases T with
 | fn g ts=>obtain⟨qs,cs,rfl,_,hL⟩:=h;exact⟨qs,rfl,hL.tys⟩
 | _=>exact zPH.ty h
theorem zNn.ty{T:PTy}{p:PV}{v:Value}{f:List Nat}(h:zNn w T p v f):Ty T p:=by
 cases T with
 | agg ts=>obtain⟨qs,cs,fs,rfl,_,hL,_⟩:=h;exact⟨qs,rfl,hL.lv.tys⟩
 | list T=>
  obtain⟨es,rfl,hO⟩:=h
  have:=hO.lv.tys
  simp only[Tys] at this
  obtain⟨_,_,e,h1,_⟩:=this
  cases e
  exact h1
 | _=>exact h.elim
theorem zSM.ty{T:PTy}{p:PV}{v:Value}{f:List Nat}(h:zSM w T p v f):Ty T p:=by
 cases T with
 | box ts=>obtain⟨qs,cs,fs,b,t,pre,post,rfl,_,_,hL,_⟩:=h;exact⟨qs,rfl,hL.lv.tys⟩
 | abx T=>obtain⟨es,rfl,h⟩:=h;exact⟨es,rfl,h.tys⟩
 | _=>exact h.elim
theorem zUk.ty{T:PTy}{p:PV}{v:Value}{f:List Nat}{b:Nat}(h:zUk w T p v f b):Ty T p:=by
 cases T with
 | box ts=>obtain⟨qs,cs,t,pre,post,rfl,_,_,hL⟩:=h;exact⟨qs,rfl,hL.tys⟩
 | _=>exact h.elim
theorem zAQ.ty{ts:List (Md × PTy)}{ps:List PV}{vs:List Value}{f fl ms:List Nat}(h:zAQ w ts ps vs f fl ms):TyA ts ps:=by
 induction h with
 | nil=>simp[TyA]
 | rd h1 _ ih=>exact⟨_,_,rfl,h1.ty,ih⟩
 | mt h1 _ ih=>exact⟨_,_,rfl,h1.ty,ih⟩
 | ow h1 _ ih=>exact⟨_,_,rfl,h1.ty,ih⟩
 | bx h1 _ ih=>exact⟨_,_,rfl,h1.ty,ih⟩
 | bs h1 _ ih=>exact⟨_,_,rfl,h1.ty,ih⟩
theorem zCN{n:Nat}{hl0:HL}{f G:List Nat}(hb:Bd n β A)(h:yI A ϕ G)(hf:∀b∈f,b ∉ G):yI ((n,hl0) :: A) (upd ϕ n f) G:=
 zBM h (fun i=>zBT A i) hf
theorem zL0{f:List Nat}{n:Nat}(hp:zM B X F A β ϕ w)(hB:w.heap.size=B)(hf:∀b∈f,b < w.heap.size)(hX:∀b∈f,b ∉ X)(hF:∀b∈f,b∈F):zAP B F A ϕ n f []:=by
 refine⟨?_,fun b hb=>.inl (hF b hb),by simp,by simp⟩
 intro i hl hi _ b hb hm
 rcases hp.own i hl hi b hb with h | h
 ·exact hX b hm h
 ·have:=hf b hm;omega
theorem zEP:∀(Ts:List PTy) (ps:List PV) (vs:List Value) (f G:List Nat) (j n:Nat) (A:Hp) (β:Nat→GV) (ϕ:Nat→List Nat),Lv w Ts ps vs f→zM B X F A β ϕ w→Bd n β A→w.heap.size=B→(∀b∈f,b ∉ X)→(∀b∈f,b∈F)→yI A ϕ G→(∀b∈f,b ∉ G) →
  ∃β' ϕ',zJB B X F ((zB (.vw []) noP j n Ts ps).2.1++A) β β' ϕ ϕ' w n (zB (.vw []) noP j n Ts ps).2.2 (zB (.vw []) noP j n Ts ps).1 vs G:=by
 intro Ts
 induction Ts with
 | nil=>
  intro ps vs f G j n A β ϕ hL hp hb hB hX hF hG hf
  cases hL
  exact⟨β,ϕ,hp,hb,fun _ _=>rfl,fun _ _=>rfl,rfl,trivial,trivial,Nat.le_refl _,hG⟩
 | cons T Ts ih=>
  intro ps vs f G j n A β ϕ hL hp hb hB hX hF hG hf
  cases ps with
  | nil=>have:=hL.lens.1;simp at this
  | cons p ps=>
   obtain⟨v,vs',f1,f2,rfl,rfl,h1,h2⟩:=hL.cons_inv
   have scal:∀(x:SV),(zB (.vw []) noP j n (T :: Ts) (p :: ps))=(x :: (zB (.vw []) noP (j+1) n Ts ps).1,(zB (.vw []) noP (j+1) n Ts ps).2.1,(zB (.vw []) noP (j+1) n Ts ps).2.2)→(∀β,SV.val β x=v)→(∀m,SV.lt m x)→(∀β,SV.ok β x) →
     ∃β' ϕ',zJB B X F ((zB (.vw []) noP j n (T :: Ts) (p :: ps)).2.1++A) β β' ϕ ϕ' w n (zB (.vw []) noP j n (T :: Ts) (p :: ps)).2.2 (zB (.vw []) noP j n (T :: Ts) (p :: ps)).1 (v :: vs') G:=by
    intro x he hx hlt hok
    obtain⟨β',ϕ',a1,a2,a3,a4,a5,a6,a7,a8,a9⟩:=ih ps vs' f2 G (j+1) n A β ϕ h2 hp hb hB (fun b hb=>hX b (by simp[hb])) (fun b hb=>hF b (by simp[hb])) hG (fun b hb=>hf b (by simp[hb]))
    rw[he]
    exact⟨β',ϕ',a1,a2,a3,a4,by simp[SV.vals,hx,a5],⟨hlt _,a6⟩,⟨hok _,a7⟩,a8,a9⟩
   cases T with
   | int k=>
    obtain⟨m,rfl,rfl,hr,rfl⟩:=h1.int_inv
    exact scal (.int k m) rfl (fun _=>rfl) (fun _=>trivial) (fun _=>hr)
   | bool=>
    obtain⟨m,rfl,rfl,rfl⟩:=h1.bool_inv
    exact scal (.bool m) rfl (fun _=>rfl) (fun _=>trivial) (fun _=>trivial)
   | str=>
    obtain⟨m,rfl,rfl,hr,rfl⟩:=h1.str_inv
    exact scal (.str m) rfl (fun _=>rfl) (fun _=>trivial) (fun _=>hr)
   | list T=>
    obtain⟨es,rfl⟩:∃es,p=.list es:=by cases h1<;>exact⟨_,rfl⟩
    have hv1:zAP B F A ϕ n f1 []:=zL0 hp hB h1.inb (fun b hb=>hX b (by simp[hb])) (fun b hb=>hF b (by simp[hb]))
    obtain⟨c1,c2⟩:=zFi (T:=T) (es:=es) (v:=v) (p:=.no) hp hb h1 hv1 trivial
    have hG':=zCN (hl0:=.arr (.vw []) T es .no) hb hG (fun b hb=>hf b (by simp[hb]):∀b∈f1,b ∉ G)
    obtain⟨β',ϕ',a1,a2,a3,a4,a5,a6,a7,a8,a9⟩:=ih ps vs' f2 G (j+1) (n+1) _ _ _ h2 c1 c2 hB (fun b hb=>hX b (by simp[hb])) (fun b hb=>hF b (by simp[hb])) hG' (fun b hb=>hf b (by simp[hb]))
    refine⟨β',ϕ',?_,?_,fun k hk=>(a3 k (by omega)).trans (zt _ _ _ hk),fun k hk=>(a4 k (by omega)).trans (zt _ _ _ hk),?_,?_,?_,?_,?_⟩
    ·simpa[zB,noP,PV.L,List.append_assoc] using a1
    ·simpa[zB,noP,PV.L,List.append_assoc] using a2
    ·simp only[zB,SV.vals,SV.val,a5,a3 n (by omega),zk];rfl
    ·exact⟨by simp only[SV.lt,zB];omega,a6⟩
    ·exact⟨trivial,a7⟩
    ·simp only[zB];omega
    ·simpa[zB,noP,PV.L,List.append_assoc] using a9
   | agg ts=>cases h1
   | box ts=>cases h1
   | abx t=>cases h1
   | fn f ts=>cases h1
   | opq=>cases h1
theorem zIs{T:PTy}{p:PV}{v:Value}{f fl G:List Nat}{n:Nat}(hL:zPH w T p v f fl)(hp:zM B X F A β ϕ w)(hb:Bd n β A)(hB:w.heap.size=B)(hX:∀b∈f,b ∉ X)(hF:∀b∈fl,b∈F)(hG:yI A ϕ G)(hf:∀b∈f,b ∉ G) :
  ∃β' ϕ',zJB B X F ((zAa n T p).2.1++A) β β' ϕ ϕ' w n (zAa n T p).2.2 [(zAa n T p).1] [v] G:=by
 have leaf:(zAa n T p=((zB (.vw []) noP 0 n [T] [p]).1.headD .nilp,(zB (.vw []) noP 0 n [T] [p]).2.1,(zB (.vw []) noP 0 n [T] [p]).2.2))→Lv w [T] [p] [v] f→fl=f →
   ∃β' ϕ',zJB B X F ((zAa n T p).2.1++A) β β' ϕ ϕ' w n (zAa n T p).2.2 [(zAa n T p).1] [v] G:=by
  intro he hL' hfl
  subst hfl
  obtain⟨β',ϕ',a1,a2,a3,a4,a5,a6,a7,a8,a9⟩:=zEP [T] [p] [v] fl G 0 n A β ϕ hL' hp hb hB hX hF hG hf
  have hx:(zB (.vw []) noP 0 n [T] [p]).1=[(zB (.vw []) noP 0 n [T] [p]).1.headD .nilp]:=by cases T<;>simp[zB]
  rw[he]
  rw[hx] at a5 a6 a7
  exact⟨β',ϕ',a1,a2,a3,a4,a5,a6,a7,a8,a9⟩
 cases T with
 | agg ts=>
  obtain⟨qs,cs,rfl,rfl,hL,rfl⟩:=hL
  obtain⟨β',ϕ',a1,a2,a3,a4,a5,a6,a7,a8,a9⟩:=zEP ts qs cs fl G 0 n A β ϕ hL hp hb hB hX hF hG hf
  exact⟨β',ϕ',a1,a2,a3,a4,by simp[zAa,SV.vals,SV.val,PV.A,a5],⟨a6,trivial⟩,⟨a7,trivial⟩,a8,a9⟩
 | box ts=>
  obtain⟨qs,cs,b,t,pre,post,rfl,rfl,hblk,hL,rfl⟩:=hL
  obtain⟨β',ϕ',a1,a2,a3,a4,a5,a6,a7,a8,a9⟩:=zEP ts qs cs fl G 0 n A β ϕ hL hp hb hB (fun c hc=>hX c (by simp[hc])) hF hG (fun c hc=>hf c (by simp[hc]))
  have hbb:b < w.heap.size:=(Array.getElem?_eq_some_iff.1 hblk).1
  have hbc:∀k,k < (zB (.vw []) noP 0 n ts qs).2.2→upd β' (zB (.vw []) noP 0 n ts qs).2.2 ⟨.pointer (some ⟨b,pre.length,none⟩),pre,post⟩ k=β' k:=fun k hk=>zt _ _ _ hk
  have hadd:=a1.add (n:=(zB (.vw []) noP 0 n ts qs).2.2) (hl0:=.box false 0 (zB (.vw []) noP 0 n ts qs).1) (g:=⟨.pointer (some ⟨b,pre.length,none⟩),pre,post⟩) (f:=[b]) a2 rfl
   ⟨b,t,rfl,rfl,by rw[SV.vals_congr hbc _ a6,a5];exact hblk⟩ (by simp[zH]) (fun h=>h.elim) trivial (by intro i hl hi hd c hc hm;simp[zH] at hm)
   (fun i hl hi _ c hc hm=>by
    simp only[List.mem_singleton] at hm
    subst hm
    rcases a1.own i hl hi c hc with h | h
    ·exact hX c (by simp) h
    ·omega) (fun h=>absurd rfl h) (by simp[zN]) (by simp[zN])
  refine⟨_,_,hadd,zAt a2 ⟨SV.lts_mono (Nat.le_succ (zB (.vw []) noP 0 n ts qs).2.2) _ a6,SV.oks_congr hbc _ a6 a7⟩,fun k hk=>(zt _ _ _ (show k < (zB (.vw []) noP 0 n ts qs).2.2 by omega)).trans (a3 k hk),fun k hk=>(zt _ _ _ (show k < (zB (.vw []) noP 0 n ts qs).2.2 by omega)).trans (a4 k hk),?_,?_,?_,?_,?_⟩
  ·simp[zAa,SV.vals,SV.val,PV.A,zk]
  ·exact⟨by simp[zAa,SV.lt,PV.A],trivial⟩
  ·exact⟨⟨b,pre.length,by simp[PV.A,zk]⟩,trivial⟩
  ·show n≤(zB (.vw []) noP 0 n ts qs).2.2+1;omega
  ·exact zCN a2 a9 (fun c hc=>by simp only[List.mem_singleton] at hc;subst hc;exact hf c (by simp))
 | abx T=>
  obtain⟨es,rfl,hA,rfl⟩:=hL
  obtain⟨b,rfl⟩:=hA.ptr
  have hadd:=hp.add (n:=n) (hl0:=.abx false T es) (g:=⟨.pointer (some ⟨b,0,none⟩),[],[]⟩) (f:=f) hb rfl
   hA (by simp[zH]) (fun h=>h.elim) trivial (by intro i hl hi hd c hc hm;simp[zH] at hm)
   (fun i hl hi _ c hc hm=>by
    have:=hA.inb c hm
    rcases hp.own i hl hi c hc with h | h
    ·exact hX c hm h
    ·omega) (fun _=>⟨rfl,rfl⟩) (by simp[zN]) (by simp[zN])
  refine⟨_,_,hadd,zAt hb trivial,fun k hk=>zt _ _ _ hk,fun k hk=>zt _ _ _ hk,?_,?_,?_,?_,?_⟩
  ·simp[zAa,SV.vals,SV.val,zk]
  ·exact⟨by simp[zAa,SV.lt],trivial⟩
  ·exact⟨⟨b,0,by simp[zk]⟩,trivial⟩
  ·show n≤n+1;omega
  ·exact zCN hb hG hf
 | fn g ts=>exact hL.elim
 | int k=>exact leaf rfl hL.1 hL.2
 | bool=>exact leaf rfl hL.1 hL.2
 | str=>exact leaf rfl hL.1 hL.2
 | list T=>exact leaf rfl hL.1 hL.2
 | opq=>exact leaf rfl hL.1 hL.2
theorem zLg:∀(Ts:List PTy) (ps:List PV) (vs:List Value) (f fl G:List Nat) (n:Nat) (A:Hp) (β:Nat→GV) (ϕ:Nat→List Nat),zI9 w Ts ps vs f fl→zM B X F A β ϕ w→Bd n β A→w.heap.size=B→(∀b∈f,b ∉ X)→(∀b∈fl,b∈F)→yI A ϕ G→(∀b∈f,b ∉ G) →
  ∃β' ϕ',zJB B X F ((zAW n Ts ps).2.1++A) β β' ϕ ϕ' w n (zAW n Ts ps).2.2 (zAW n Ts ps).1 vs G:=by
 intro Ts
 induction Ts with
 | nil=>
  intro ps vs f fl G n A β ϕ hL hp hb hB hX hF hG hf
  cases hL
  exact⟨β,ϕ,hp,hb,fun _ _=>rfl,fun _ _=>rfl,rfl,trivial,trivial,Nat.le_refl _,hG⟩
 | cons T Ts ih=>
  intro ps vs f fl G n A β ϕ hL hp hb hB hX hF hG hf
  cases hL with
  | @cons _ _ p ps' v vs' f g fl1 gl h1 h2=>
   obtain⟨β1,ϕ1,b1,b2,b3,b4,b5,b6,b7,b8,b9⟩:=zIs (n:=n) h1 hp hb hB (fun b hb=>hX b (by simp[hb])) (fun b hb=>hF b (by simp[hb])) hG (fun b hb=>hf b (by simp[hb]))
   obtain⟨β',ϕ',a1,a2,a3,a4,a5,a6,a7,a8,a9⟩:=ih ps' vs' g gl G _ _ _ _ h2 b1 b2 hB (fun b hb=>hX b (by simp[hb])) (fun b hb=>hF b (by simp[hb])) b9 (fun b hb=>hf b (by simp[hb]))
   refine⟨β',ϕ',?_,?_,fun k hk=>(a3 k (by omega)).trans (b3 k hk),fun k hk=>(a4 k (by omega)).trans (b4 k hk),?_,?_,?_,?_,?_⟩
   ·simpa[zAW,List.append_assoc] using a1
   ·simpa[zAW,List.append_assoc] using a2
   ·simp only[zAW,SV.vals,a5]
    simp only[SV.vals,List.cons.injEq,and_true] at b5
    rw[SV.val_congr a3 _ b6.1,b5]
   ·exact⟨SV.lt_mono a8 _ b6.1,a6⟩
   ·exact⟨SV.ok_congr a3 _ b6.1 b7.1,a7⟩
   ·simp only[zAW];omega
   ·simpa[zAW,List.append_assoc] using a9
theorem zM8{T:PTy}{p:PV}{v:Value}{f fl G:List Nat}{n:Nat}(hL:zPj w T p v f fl)(hp:zM B X F A β ϕ w)(hb:Bd n β A)(hB:w.heap.size=B)(hX:∀b∈f,b ∉ X)(hF:∀b∈fl,b∈F)(hG:yI A ϕ G)(hf:∀b∈f,b ∉ G) :
  ∃β' ϕ',zJB B X F ((zGU n T p).2.1++A) β β' ϕ ϕ' w n (zGU n T p).2.2 [(zGU n T p).1] [v] G:=by
 cases T with
 | fn g ts=>
  obtain⟨qs,cs,rfl,rfl,hL⟩:=hL
  obtain⟨β',ϕ',a1,a2,a3,a4,a5,a6,a7,a8,a9⟩:=zLg ts qs cs f fl G n A β ϕ hL hp hb hB hX hF hG hf
  exact⟨β',ϕ',a1,a2,a3,a4,by simp[zGU,SV.vals,SV.val,PV.A,a5],⟨a6,trivial⟩,⟨a7,trivial⟩,a8,a9⟩
 | _=>exact zIs hL hp hb hB hX hF hG hf
def zJ7(w:World)(β:Nat→GV)(T:PTy)(x:SV):Prop:=
 match T,x with
 | .box l,.ptr h 0=>∃b t cs0,(β h).v=.pointer (some ⟨b,(β h).pre.length,none⟩)∧w.heap[b]?=some (.cells ((β h).pre++cs0++(β h).post).toArray t (0,0))∧cs0.length=l.length
 | _,_=>True
def nL:List PTy→Nat
 | []=>0
 | .list _ :: ts=>nL ts+1
 | _ :: ts=>nL ts
def zD2(β:Nat→GV):List PTy→Nat→List Value→Prop
 | .list _ :: ts,i,c :: cs=>c=(β i).v∧zD2 β ts (i+1) cs
 | _ :: ts,i,_ :: cs=>zD2 β ts i cs
 | _,_,_=>True
theorem zD2.congr{β β':Nat→GV}{n:Nat}(hβ:∀k,k < n→β' k=β k):∀{ts:List PTy} {i:Nat} {cs:List Value},zD2 β ts i cs→i+nL ts≤n→zD2 β' ts i cs
 | [],i,cs,h,hn=>by cases cs<;>trivial
 | t :: ts,i,[],h,hn=>by cases t<;>trivial
 | t :: ts,i,c :: cs,h,hn=>by
  cases t<;>simp only[zD2,nL] at h hn ⊢<;>first | exact zD2.congr hβ h hn | exact⟨h.1.trans (by rw[hβ i (by omega)]),zD2.congr hβ h.2 (by omega)⟩
theorem zEx{o:Own}{q:Nat→Pth}{β:Nat→GV}:∀{ts:List PTy} {ps:List PV} {j n:Nat},ts.length=ps.length→zD2 β ts n (SV.vals β (zB o q j n ts ps).1)∧(zB o q j n ts ps).2.2=n+nL ts
 | [],ps,j,n,h=>by simp[zB,zD2,nL]
 | t :: ts,[],j,n,h=>by simp at h
 | t :: ts,p :: ps,j,n,h=>by
  have hl:ts.length=ps.length:=by simpa using h
  cases t with
  | list T=>
   obtain⟨a1,a2⟩:=zEx (o:=o) (q:=q) (β:=β) (j:=j+1) (n:=n+1) hl
   simp only[zB,SV.vals,zD2,nL]
   exact⟨⟨rfl,a1⟩,by omega⟩
  | _=>
   obtain⟨a1,a2⟩:=zEx (o:=o) (q:=q) (β:=β) (j:=j+1) (n:=n) hl
   simp only[zB,SV.vals,zD2,nL]
   exact⟨a1,a2⟩
def zJ8(w:World)(β:Nat→GV)(T:PTy)(x:SV):Prop:=
 match T,x with
 | .box l,.ptr h 0=>∃b t cs0,(β h).v=.pointer (some ⟨b,(β h).pre.length,none⟩)∧w.heap[b]?=some (.cells ((β h).pre++cs0++(β h).post).toArray t (0,0))∧cs0.length=l.length∧nL l≤h∧zD2 β l (h - nL l) cs0
 | _,_=>True
theorem zJ8.congr{β β':Nat→GV}{n:Nat}{T:PTy}{x:SV}(h:zJ8 w β T x)(hβ:∀k,k < n→β' k=β k)(hx:SV.lt n x):zJ8 w β' T x:=by
 unfold zJ8 at h ⊢
 split at h
 ·rename_i l i
  obtain⟨b,t,cs0,h1,h2,h3,h4,h5⟩:=h
  have hi:i < n:=hx
  rw[hβ i hx];exact⟨b,t,cs0,h1,h2,h3,h4,h5.congr hβ (by omega)⟩
 ·trivial
def zLt(w:World)(β:Nat→GV):List (Md × PTy)→List SV→Prop
 | (.bx,t) :: ts,x :: xs=>zJ7 w β t x∧zLt w β ts xs
 | (.bs,t) :: ts,x :: xs=>zJ8 w β t x∧zLt w β ts xs
 | _ :: ts,_ :: xs=>zLt w β ts xs
 | _,_=>True
theorem zJ7.congr{β β':Nat→GV}{n:Nat}{T:PTy}{x:SV}(h:zJ7 w β T x)(hβ:∀k,k < n→β' k=β k)(hx:SV.lt n x):zJ7 w β' T x:=by
 unfold zJ7 at h ⊢
 split at h
 ·rename_i l i
  rw[hβ i hx];exact h
 ·trivial
theorem zLt.congr{β β':Nat→GV}{n:Nat}(hβ:∀k,k < n→β' k=β k):∀{ts:List (Md × PTy)} {xs:List SV},zLt w β ts xs→SV.lts n xs→zLt w β' ts xs
 | [],xs,h,hx=>by cases xs<;>trivial
 | (m,t) :: ts,[],h,hx=>by cases m<;>trivial
 | (m,t) :: ts,x :: xs,h,hx=>by
  cases m with
  | bx=>exact⟨h.1.congr hβ hx.1,zLt.congr hβ h.2 hx.2⟩
  | bs=>exact⟨h.1.congr hβ hx.1,zLt.congr hβ h.2 hx.2⟩
  | _=>exact zLt.congr (ts:=ts) (xs:=xs) hβ h hx.2
theorem zLc{T:PTy}{p:PV}{v:Value}{f G:List Nat}{n:Nat}(hL:zSM w T p v f)(hp:zM B X F A β ϕ w)(hb:Bd n β A)(hn:(f++G).Nodup)(hw:∀b∈f,(b∈X∨B≤b)∧(b∈F∨B≤b))(hd:yI A ϕ (f++G)) :
  ∃β' ϕ',zJB B X F ((zDh n T p).2.1++A) β β' ϕ ϕ' w n (zDh n T p).2.2 [(zDh n T p).1] [v] G∧zJ7 w β' T (zDh n T p).1:=by
 cases T with
 | box ts=>
  obtain⟨qs,cs,fs,b,t,pre,post,rfl,rfl,hblk,hL,rfl⟩:=hL
  have hn':(fs.flatten++(b :: G)).Nodup:=by
   simp only[List.cons_append,List.nodup_cons,List.mem_append,not_or,List.nodup_append,List.mem_cons] at hn ⊢
   obtain⟨⟨q1,q2⟩,q3,q4,q5⟩:=hn
   refine⟨q3,⟨q2,q4⟩,?_⟩
   rintro a ha b' (rfl | hb') e
   ·subst e;exact q1 ha
   ·exact q5 a ha b' hb' e
  obtain⟨β',ϕ',a1,a2,a3,a4,a5,a6,a7,a8,a9⟩:=zCD noP (fun _=>rfl) ts qs cs fs (b :: G) 0 n A β ϕ hL hp hb hn' (fun c hc=>hw c (by simp only[List.mem_cons];exact .inr hc)) (hd.mono fun c hc=>by simp only[List.mem_append,List.mem_cons] at hc ⊢;rcases hc with h | h | h<;>simp[h])
  have hbc:∀k,k < (zB .dp noP 0 n ts qs).2.2→upd β' (zB .dp noP 0 n ts qs).2.2 ⟨.pointer (some ⟨b,pre.length,none⟩),pre,post⟩ k=β' k:=fun k hk=>zt _ _ _ hk
  have hadd:=a1.add (n:=(zB .dp noP 0 n ts qs).2.2) (hl0:=.box true 0 (zB .dp noP 0 n ts qs).1) (g:=⟨.pointer (some ⟨b,pre.length,none⟩),pre,post⟩) (f:=[b]) a2 rfl
   ⟨b,t,rfl,rfl,by rw[SV.vals_congr hbc _ a6,a5];exact hblk⟩ (fun c hc=>by simp only[zH,List.mem_singleton] at hc;subst hc;exact(hw c (by simp)).1) (fun _ c hc=>by simp only[List.mem_singleton] at hc;subst hc;exact(hw c (by simp)).2) trivial
   (a9.mono fun c hc=>by simp only[zH,List.mem_singleton] at hc;simp[hc])
   (fun i hl hi _ c hc hm=>by
    simp only[List.mem_singleton] at hm
    subst hm
    by_cases hdd:hl=.dead
    ·subst hdd;simp[zH] at hc
    ·exact a9 i hl hi hdd c (zX c hc) (by simp)) (fun h=>absurd rfl h) (by simp[zN]) (by simp[zN])
  refine⟨_,_,⟨hadd,zAt a2 ⟨SV.lts_mono (Nat.le_succ (zB .dp noP 0 n ts qs).2.2) _ a6,SV.oks_congr hbc _ a6 a7⟩,fun k hk=>(zt _ _ _ (show k < (zB .dp noP 0 n ts qs).2.2 by omega)).trans (a3 k hk),fun k hk=>(zt _ _ _ (show k < (zB .dp noP 0 n ts qs).2.2 by omega)).trans (a4 k hk),?_,?_,?_,?_,?_⟩,⟨b,t,cs,by simp[PV.A,zk],by simpa[PV.A,zk] using hblk,hL.lv.lens.2.trans hL.lv.lens.1.symm⟩⟩
  ·simp[zDh,SV.vals,SV.val,PV.A,zk]
  ·exact⟨by simp[zDh,SV.lt,PV.A],trivial⟩
  ·exact⟨⟨b,pre.length,by simp[PV.A,zk]⟩,trivial⟩
  ·show n≤(zB .dp noP 0 n ts qs).2.2+1;omega
  ·refine zCN a2 (a9.mono fun c hc=>by simp[hc]) (fun c hc hm=>?_)
   simp only[List.mem_singleton] at hc
   subst hc
   simp only[List.cons_append,List.nodup_cons,List.mem_append,not_or] at hn
   exact hn.1.2 hm
 | abx T=>
  obtain⟨es,rfl,hA⟩:=hL
  obtain⟨b,rfl⟩:=hA.ptr
  have hadd:=hp.add (n:=n) (hl0:=.abx true T es) (g:=⟨.pointer (some ⟨b,0,none⟩),[],[]⟩) (f:=f) hb rfl
   hA (fun c hc=>(hw c (by simpa[zH] using hc)).1) (fun _ c hc=>(hw c hc).2) trivial
   (hd.mono fun c hc=>List.mem_append_left _ hc)
   (fun i hl hi _ c hc hm=>by
    by_cases hdd:hl=.dead
    ·subst hdd;simp[zH] at hc
    ·exact hd i hl hi hdd c (zX c hc) (List.mem_append_left _ hm)) (fun _=>⟨rfl,rfl⟩) (by simp[zN]) (by simp[zN])
  refine⟨_,_,⟨hadd,zAt hb trivial,fun k hk=>zt _ _ _ hk,fun k hk=>zt _ _ _ hk,?_,?_,?_,?_,?_⟩,trivial⟩
  ·simp[zDh,SV.vals,SV.val,zk]
  ·exact⟨by simp[zDh,SV.lt],trivial⟩
  ·exact⟨⟨b,0,by simp[zk]⟩,trivial⟩
  ·show n≤n+1;omega
  ·exact zCN hb (hd.mono fun c hc=>by simp[hc]) (fun c hc hm=>(List.nodup_append.1 hn).2.2 c hc c hm rfl)
 | _=>exact hL.elim
theorem zLe{T:PTy}{p:PV}{v:Value}{f G:List Nat}{b n:Nat}(hL:zUk w T p v f b)(hp:zM B X F A β ϕ w)(hb:Bd n β A)(hB:w.heap.size=B)(hX:∀c∈f,c ∉ X)(hF:∀c∈f,c∈F)(hM:∀c∈b :: G,c∈X∧c∈F)(hn:b ∉ G)(hd:yI A ϕ (b :: G)) :
  ∃β' ϕ',zJB B X F ((zFF n T p).2.1++A) β β' ϕ ϕ' w n (zFF n T p).2.2 [(zFF n T p).1] [v] G∧zJ8 w β' T (zFF n T p).1:=by
 cases T with
 | box ts=>
  obtain⟨qs,cs,t,pre,post,rfl,rfl,hblk,hL⟩:=hL
  obtain⟨β',ϕ',a1,a2,a3,a4,a5,a6,a7,a8,a9⟩:=zEP ts qs cs f (b :: G) 0 n A β ϕ hL hp hb hB hX hF hd (fun c hc hm=>hX c hc (hM c hm).1)
  have hlen:ts.length=qs.length:=hL.lens.1
  have hbc:∀k,k < (zB (.vw []) noP 0 n ts qs).2.2→upd β' (zB (.vw []) noP 0 n ts qs).2.2 ⟨.pointer (some ⟨b,pre.length,none⟩),pre,post⟩ k=β' k:=fun k hk=>zt _ _ _ hk
  have hadd:=a1.add (n:=(zB (.vw []) noP 0 n ts qs).2.2) (hl0:=.box true 0 (zB (.vw []) noP 0 n ts qs).1) (g:=⟨.pointer (some ⟨b,pre.length,none⟩),pre,post⟩) (f:=[b]) a2 rfl
   ⟨b,t,rfl,rfl,by rw[SV.vals_congr hbc _ a6,a5];exact hblk⟩ (fun c hc=>by simp only[zH,List.mem_singleton] at hc;subst hc;exact .inl (hM c (by simp)).1) (fun _ c hc=>by simp only[List.mem_singleton] at hc;subst hc;exact .inl (hM c (by simp)).2) trivial
   (a9.mono fun c hc=>by simp only[zH,List.mem_singleton] at hc;simp[hc])
   (fun i hl hi _ c hc hm=>by
    simp only[List.mem_singleton] at hm
    subst hm
    by_cases hdd:hl=.dead
    ·subst hdd;simp[zH] at hc
    ·exact a9 i hl hi hdd c (zX c hc) (by simp)) (fun h=>absurd rfl h) (by simp[zN]) (by simp[zN])
  refine⟨_,_,⟨hadd,zAt a2 ⟨SV.lts_mono (Nat.le_succ (zB (.vw []) noP 0 n ts qs).2.2) _ a6,SV.oks_congr hbc _ a6 a7⟩,fun k hk=>(zt _ _ _ (show k < (zB (.vw []) noP 0 n ts qs).2.2 by omega)).trans (a3 k hk),fun k hk=>(zt _ _ _ (show k < (zB (.vw []) noP 0 n ts qs).2.2 by omega)).trans (a4 k hk),?_,?_,?_,?_,?_⟩,?_⟩
  ·simp[zFF,SV.vals,SV.val,PV.A,zk]
  ·exact⟨by simp[zFF,SV.lt,PV.A],trivial⟩
  ·exact⟨⟨b,pre.length,by simp[PV.A,zk]⟩,trivial⟩
  ·show n≤(zB (.vw []) noP 0 n ts qs).2.2+1;omega
  ·refine zCN a2 (a9.mono fun c hc=>by simp[hc]) (fun c hc hm=>?_)
   simp only[List.mem_singleton] at hc
   subst hc
   exact hn hm
  ·obtain⟨k1,k2⟩:=zEx (o:=.vw []) (q:=noP) (β:=β') (j:=0) (n:=n) hlen
   refine⟨b,t,cs,by simp[PV.A,zk],by simpa[PV.A,zk] using hblk,hL.lens.2.trans hlen.symm,?_,?_⟩
   ·show nL ts≤(zB (.vw []) noP 0 n ts qs).2.2;omega
   ·have e:(zB (.vw []) noP 0 n ts qs).2.2 - nL ts=n:=by omega
    show zD2 _ ts ((zB (.vw []) noP 0 n ts qs).2.2 - nL ts) cs
    rw[e]
    rw[a5] at k1
    exact k1.congr hbc (by omega)
 | _=>exact hL.elim
theorem zNn.ret{t:PTy}{p:PV}{v:Value}{f:List Nat}(h:zNn w t p v f):zLp w t p v f:=by
 cases t with
 | agg ts=>exact h
 | list T=>obtain⟨es,rfl,hO⟩:=h;exact⟨[f],.list hO .nil,by simp⟩
 | _=>exact h.elim
theorem zEO:∀(Ts:List (Md × PTy)) (ps:List PV) (vs:List Value) (fs fl ms:List Nat) (n:Nat) (A:Hp) (β:Nat→GV) (ϕ:Nat→List Nat),zAQ w Ts ps vs fs fl ms→zM B X F A β ϕ w→Bd n β A→w.heap.size=B →
  (∀b∈fs,b ∉ X)→(∀b∈fl,b∈F)→(∀b∈ms,b∈X∧b∈F)→ms.Nodup→yI A ϕ ms →
  ∃β' ϕ',zJB B X F ((zg n Ts ps).2.1++A) β β' ϕ ϕ' w n (zg n Ts ps).2.2 (zg n Ts ps).1 vs []∧zLt w β' Ts (zg n Ts ps).1:=by
 intro Ts
 induction Ts with
 | nil=>
  intro ps vs fs fl ms n A β ϕ hL hp hb hB hX hF hM hn hG
  cases hL
  exact⟨β,ϕ,⟨hp,hb,fun _ _=>rfl,fun _ _=>rfl,rfl,trivial,trivial,Nat.le_refl _,hG.mono (by simp)⟩,trivial⟩
 | cons T Ts ih=>
  intro ps vs fs fl ms n A β ϕ hL hp hb hB hX hF hM hn hG
  have comb:∀{m t p ps' v vs'} {K:SV × Hp × Nat} {β1 ϕ1} {fs' fl' ms'},zFE n m t p=K→(m=.bx→zJ7 w β1 t K.1)→(m=.bs→zJ8 w β1 t K.1)→zJB B X F (K.2.1++A) β β1 ϕ ϕ1 w n K.2.2 [K.1] [v] ms'→zAQ w Ts ps' vs' fs' fl' ms'→(∀b∈fs',b ∉ X)→(∀b∈fl',b∈F)→(∀b∈ms',b∈X∧b∈F)→ms'.Nodup →
    ∃β' ϕ',zJB B X F ((zg n ((m,t) :: Ts) (p :: ps')).2.1++A) β β' ϕ ϕ' w n (zg n ((m,t) :: Ts) (p :: ps')).2.2 (zg n ((m,t) :: Ts) (p :: ps')).1 (v :: vs') []∧zLt w β' ((m,t) :: Ts) (zg n ((m,t) :: Ts) (p :: ps')).1:=by
   rintro m t p ps' v vs' K β1 ϕ1 fs' fl' ms' rfl hold holdS ⟨b1,b2,b3,b4,b5,b6,b7,b8,b9⟩ h2 g1 g2 g3 g4
   obtain⟨β',ϕ',⟨a1,a2,a3,a4,a5,a6,a7,a8,a9⟩,ho⟩:=ih ps' vs' fs' fl' ms' _ _ _ _ h2 b1 b2 hB g1 g2 g3 g4 b9
   refine⟨β',ϕ',⟨?_,?_,fun k hk=>(a3 k (by omega)).trans (b3 k hk),fun k hk=>(a4 k (by omega)).trans (b4 k hk),?_,?_,?_,?_,?_⟩,by
    cases m with
    | bx=>exact⟨(hold rfl).congr a3 b6.1,ho⟩
    | bs=>exact⟨(holdS rfl).congr a3 b6.1,ho⟩
    | _=>exact ho⟩
   ·simpa[zg,List.append_assoc] using a1
   ·simpa[zg,List.append_assoc] using a2
   ·simp only[zg,SV.vals,a5]
    simp only[SV.vals,List.cons.injEq,and_true] at b5
    rw[SV.val_congr a3 _ b6.1,b5]
   ·exact⟨SV.lt_mono a8 _ b6.1,a6⟩
   ·exact⟨SV.ok_congr a3 _ b6.1 b7.1,a7⟩
   ·simp only[zg];omega
   ·simpa[zg,List.append_assoc] using a9
  cases hL with
  | rd h1 h2=>
   obtain⟨β1,ϕ1,hl⟩:=zM8 (n:=n) h1 hp hb hB (fun b hb=>hX b (by simp[hb])) (fun b hb=>hF b (by simp[hb])) hG (fun b hb hm=>hX b (by simp[hb]) (hM b hm).1)
   exact comb rfl (fun e=>by cases e) (fun e=>by cases e) hl h2 (fun b hb=>hX b (by simp[hb])) (fun b hb=>hF b (by simp[hb])) hM hn
  | mt h1 h2=>
   obtain⟨β1,ϕ1,hl⟩:=zEw (n:=n) h1.ret hp hb hn (fun b hb=>⟨.inl (hM b (by simp[hb])).1,.inl (hM b (by simp[hb])).2⟩) hG
   exact comb rfl (fun e=>by cases e) (fun e=>by cases e) hl h2 hX hF (fun b hb=>hM b (by simp[hb])) (List.nodup_append.1 hn).2.1
  | ow h1 h2=>
   obtain⟨β1,ϕ1,hl⟩:=zEw (n:=n) h1.ret hp hb hn (fun b hb=>⟨.inl (hM b (by simp[hb])).1,.inl (hM b (by simp[hb])).2⟩) hG
   exact comb rfl (fun e=>by cases e) (fun e=>by cases e) hl h2 hX hF (fun b hb=>hM b (by simp[hb])) (List.nodup_append.1 hn).2.1
  | bx h1 h2=>
   obtain⟨β1,ϕ1,hl,hold⟩:=zLc (n:=n) h1 hp hb hn (fun b hb=>⟨.inl (hM b (by simp[hb])).1,.inl (hM b (by simp[hb])).2⟩) hG
   exact comb rfl (fun _=>hold) (fun e=>by cases e) hl h2 hX hF (fun b hb=>hM b (by simp[hb])) (List.nodup_append.1 hn).2.1
  | bs h1 h2=>
   simp only[List.nodup_cons] at hn
   obtain⟨β1,ϕ1,hl,hold⟩:=zLe (n:=n) h1 hp hb hB (fun b hb=>hX b (by simp[hb])) (fun b hb=>hF b (by simp[hb])) hM hn.1 hG
   exact comb rfl (fun e=>by cases e) (fun _=>hold) hl h2 (fun b hb=>hX b (by simp[hb])) (fun b hb=>hF b (by simp[hb])) (fun b hb=>hM b (by simp[hb])) hn.2
end
end
section
variable [ze]
def zHr(E:Env)(S:St):List ResultVar→Option (List SV)
 | []=>some []
 | .tmp t :: ts=>match lk S.Lp t,zHr E S ts with | some x,some xs=>some (x :: xs) | _,_=>none
 | .cell t ty :: ts=>match lk S.Lp t,zHr E S ts with
  | some (.ptr h 0),some xs=>(match lk S.A h,lk E.ty ty with
   | some (.box _ _ cs),some ti=>if ti.agg&&cs.length == ti.sz then some (.agg cs :: xs) else none
   | _,_=>none)
  | _,_=>none
def zOG:Nat→List SV→List (Nat × SV)
 | _,[]=>[]
 | i,x :: xs=>(i,x) :: zOG (i+1) xs
def zF0:List PTy→Nat→List SV→Option (Prop × List PV)
 | [],_,[]=>some (True,[])
 | .int k :: ts,i,.int k' m :: xs=>match zF0 ts i xs with | some (o,ps)=>some (k'=k∧o,.int k m :: ps) | none=>none
 | .bool :: ts,i,.bool b :: xs=>match zF0 ts i xs with | some (o,ps)=>some (o,.bool b :: ps) | none=>none
 | .str :: ts,i,.str l :: xs=>match zF0 ts i xs with | some (o,ps)=>some (o,.str l :: ps) | none=>none
 | .list _ :: ts,i,.sl j :: xs=>match zF0 ts (i+1) xs with | some (o,ps)=>some (j=i∧o,.list [] :: ps) | none=>none
 | _,_,_=>none
def zB0(A:Hp):List (Md × PTy)→List SV→Option (Prop × List PV)
 | (.mt,t) :: ts,x :: xs=>match yR A t x,zB0 A ts xs with | some (o,p),some (o',ps)=>some (o∧o',p :: ps) | _,_=>none
 | (.rd,_) :: ts,_ :: xs=>zB0 A ts xs
 | (.ow,_) :: ts,_ :: xs=>zB0 A ts xs
 | (.bx,.box l) :: ts,.ptr h 0 :: xs=>(match lk A h with
  | some (.box true _ cs)=>(match zw A l cs,zB0 A ts xs with | some (o,p),some (o',ps)=>some ((o∧cs.length=l.length)∧o',.agg p :: ps) | _,_=>none)
  | _=>none)
 | (.bx,.abx T) :: ts,.ptr h 0 :: xs=>(match lk A h with
  | some (.abx true T' es)=>(match zB0 A ts xs with | some (o',ps)=>some (T'=T∧o',.list es :: ps) | none=>none)
  | _=>none)
 | (.bs,.box l) :: ts,.ptr h 0 :: xs=>(match lk A h with
  | some (.box true _ cs)=>(match zF0 l (h - nL l) cs,zB0 A ts xs with | some (o,p),some (o',ps)=>some ((o∧cs.length=l.length)∧o',.agg p :: ps) | _,_=>none)
  | _=>none)
 | [],[]=>some (True,[])
 | _,_=>none
def zDo:List PTy→Prop
 | []=>True
 | .agg _ :: ts=>zDo ts
 | .int _ :: ts=>zDo ts
 | .bool :: ts=>zDo ts
 | .str :: ts=>zDo ts
 | .list _ :: ts=>zDo ts
 | _ :: _=>False
def zBt:List PTy→Prop
 | []=>True
 | .agg _ :: ts=>zBt ts
 | .int _ :: ts=>zBt ts
 | .bool :: ts=>zBt ts
 | .str :: ts=>zBt ts
 | .list _ :: ts=>zBt ts
 | .abx _ :: ts=>zBt ts
 | .opq :: ts=>zBt ts
 | _ :: _=>False
def zPP(A:Hp):PTy→SV→Option (Prop × PV)
 | .opq,x=>(match x with | .nilp=>some (True,PV.d) | _=>none)
 | T,x=>yR A T x
def zJP(A:Hp):List PTy→List SV→Option (Prop × List PV)
 | [],[]=>some (True,[])
 | t :: ts,x :: xs=>match zPP A t x,zJP A ts xs with | some (o,p),some (o',ps)=>some (o∧o',p :: ps) | _,_=>none
 | _,_=>none
def zPO:PTy→SV→List Nat
 | .abx _,.ptr h _=>[h]
 | _,x=>zZ x.cells
def zHg:List PTy→List SV→List Nat
 | t :: ts,x :: xs=>zPO t x++zHg ts xs
 | _,_=>[]
def zSj(A:Hp):PTy→SV→Prop
 | .abx _,.ptr h _=>(match lk A h with | some (.abx true _ _)=>True | _=>False)
 | _,_=>True
def zMQ(A:Hp):List PTy→List SV→Prop
 | t :: ts,x :: xs=>zSj A t x∧zMQ A ts xs
 | _,_=>True
def zOJ:List (Md × PTy)→Prop
 | []=>True
 | (.mt,.agg _) :: ts=>zOJ ts
 | (.mt,.list _) :: ts=>zOJ ts
 | (.mt,_) :: _=>False
 | _ :: ts=>zOJ ts
def zOr(A:Hp):SV→List SV
 | .ptr h _=>(match lk A h with | some (.box _ _ cs)=>cs | _=>[])
 | _=>[]
def zEK(A:Hp):List (Md × PTy)→List SV→List Nat
 | (.mt,_) :: ts,x :: xs=>zZ x.cells++zEK A ts xs
 | (.bx,_) :: ts,x :: xs=>zZ (zOr A x)++zEK A ts xs
 | _ :: ts,_ :: xs=>zEK A ts xs
 | _,_=>[]
def zH8(A:Hp):List (Md × PTy)→List SV→List Nat
 | (.mt,_) :: ts,x :: xs=>zZ x.cells++zH8 A ts xs
 | (.bx,_) :: ts,.ptr h _ :: xs=>h :: (zZ (zOr A (.ptr h 0))++zH8 A ts xs)
 | (.bs,_) :: ts,.ptr h _ :: xs=>h :: zH8 A ts xs
 | _ :: ts,_ :: xs=>zH8 A ts xs
 | _,_=>[]
def zQU(s:zP)(xs xs0:List SV)(ps:List PV)(A:Hp):Prop:=
 match zJP A s.ret xs,zB0 A s.args xs0 with
 | some (o,rs),some (o',qs)=>o∧rs=s.res ps∧o'∧qs=s.out ps∧zAj A (zAZ xs++zEK A s.args xs0)=true∧zMQ A s.ret xs
 | _,_=>False
def zLj(E:Env)(outs:List ResultVar)(s:zP)(xs0:List SV)(ps:List PV)(S:St):Prop:=
 match zHr E S outs with
 | none=>False
 | some xs=>
   (if s.fresh then zBt s.ret∧zOJ s.args∧ndB (zHg s.ret xs++zH8 (zAI S.A (zAZ xs++zEK S.A s.args xs0)) s.args xs0)=true∧zQU s xs xs0 ps (zAI S.A (zAZ xs++zEK S.A s.args xs0))
   else zDo s.ret∧zA7 s.args=true∧(match zF3 S.A s.ret xs with | some (o,rs)=>o∧rs=s.res ps | none=>False))
section
variable {P:Program} {E:Env} {N:Nat} {w0:World} {X F:List Nat} {S:St} {β:Nat→GV} {ϕ:Nat→List Nat} {a:Act} {w w':World} {o:Oper} {R:RR} {A:Hp} {B:Nat}
theorem zIU{T:PTy}{x:SV}{ob:Prop}{p:PV}(h:yR A T x=some (ob,p))(hob:ob)(hp:zM B X F A β ϕ w)(hk:SV.ok β x)(ho:zAj A (zZ x.cells)=true)(hT:zDo [T]) :
  zLp w T p (SV.val β x) ((zZ x.cells).map ϕ).flatten:=by
 have lists:∀{us:List PTy} {ys:List SV} {o:Prop} {rs:List PV},zw A us ys=some (o,rs)→o→SV.oks β ys→zAj A (zZ ys)=true→LoD w us rs (SV.vals β ys) (zEz ϕ ys):=by
  intro us ys o rs q1 q2 q3 q4
  refine zAL q1 q2 q3 fun h hh o T es p hA=>?_
  obtain⟨T',es',p',e⟩:=zC4.1 (zAi.1 q4 h hh)
  rw[hA] at e;cases e
  exact hp.sat _ _ hA
 have leaf:∀(h':yc A T x=some (ob,p)),(x.cells=[x])→∃fs,LoD w [T] [p] [SV.val β x] fs∧((zZ x.cells).map ϕ).flatten=fs.flatten:=by
  intro h' hc
  rw[hc] at ho ⊢
  exact⟨_,lists (us:=[T]) (ys:=[x]) (o:=ob∧True) (rs:=[p]) (by simp[zw,h']) ⟨hob,trivial⟩ ⟨hk,trivial⟩ ho,by rw[zAN]⟩
 cases T with
 | agg ts=>
  cases x with
  | agg xs=>
   simp only[yR] at h
   split at h
   ·rename_i o ps hps
    simp only[Option.some.injEq,Prod.mk.injEq] at h
    obtain⟨rfl,rfl⟩:=h
    exact⟨ps,_,_,rfl,rfl,lists hps hob hk ho,by rw[zAN];rfl⟩
   ·cases h
  | _=>simp[yR,yc] at h
 | box ts=>exact hT.elim
 | abx t=>exact hT.elim
 | fn g ts=>exact hT.elim
 | opq=>exact hT.elim
 | int k=>cases x<;>first | (simp[yR,yc] at h;done) | exact leaf (by simpa[yR] using h) rfl
 | bool=>cases x<;>first | (simp[yR,yc] at h;done) | exact leaf (by simpa[yR] using h) rfl
 | str=>cases x<;>first | (simp[yR,yc] at h;done) | exact leaf (by simpa[yR] using h) rfl
 | list T=>cases x<;>first | (simp[yR,yc] at h;done) | exact leaf (by simpa[yR] using h) rfl
theorem zN5{T:PTy}{x:SV}{ob:Prop}{p:PV}(h:zPP A T x=some (ob,p))(hob:ob)(hp:zM B X F A β ϕ w)(hk:SV.ok β x)(ho:zAj A (zZ x.cells)=true)(ha:zSj A T x)(hT:zBt [T]) :
  zRx w T p (SV.val β x) ((zPO T x).map ϕ).flatten:=by
 have h0:∀(hT':zDo [T]) (e:zPP A T x=yR A T x) (e2:zPO T x=zZ x.cells) (e3:zRx w T p (SV.val β x) ((zZ x.cells).map ϕ).flatten=zLp w T p (SV.val β x) ((zZ x.cells).map ϕ).flatten),zRx w T p (SV.val β x) ((zPO T x).map ϕ).flatten:=fun hT' e e2 e3=>by
  rw[e2,e3];exact zIU (e ▸ h) hob hp hk ho hT'
 cases T with
 | abx T=>
  cases x with
  | ptr i off=>
   cases off with
   | zero=>
    simp only[zPP,yR] at h
    simp only[zSj] at ha
    split at h
    ·rename_i ow T' es hA
     simp only[Option.some.injEq,Prod.mk.injEq] at h
     obtain⟨rfl,rfl⟩:=h
     subst hob
     have hab:zAR w T' es (β i).v (ϕ i):=hp.sat _ _ hA
     obtain⟨b,hv⟩:=hab.ptr
     have hvv:SV.val β (.ptr i 0)=(β i).v:=by simp[SV.val,hv]
     refine⟨es,rfl,?_⟩
     rw[hvv]
     simpa[zPO] using hab
    ·cases h
   | succ n=>simp[zPP,yR,yc] at h
  | _=>simp[zPP,yR,yc] at h
 | opq=>
  simp only[zPP] at h
  split at h
  ·simp only[Option.some.injEq,Prod.mk.injEq] at h
   obtain⟨rfl,rfl⟩:=h
   exact⟨rfl,rfl,by simp[zPO,SV.cells,zZ]⟩
  ·cases h
 | box ts=>exact hT.elim
 | fn g ts=>exact hT.elim
 | agg ts=>exact h0 trivial rfl (by cases x<;>rfl) rfl
 | int k=>exact h0 trivial rfl (by cases x<;>rfl) rfl
 | bool=>exact h0 trivial rfl (by cases x<;>rfl) rfl
 | str=>exact h0 trivial rfl (by cases x<;>rfl) rfl
 | list T=>exact h0 trivial rfl (by cases x<;>rfl) rfl
theorem zJO{t:PTy}{ts:List PTy}(h:zBt (t :: ts)):zBt [t]∧zBt ts:=by
 cases t<;>first | exact⟨trivial,h⟩ | exact h.elim
theorem zLG{t:PTy}{ts:List PTy}(h:zDo (t :: ts)):zDo [t]∧zDo ts:=by
 cases t<;>first | exact⟨trivial,h⟩ | exact h.elim
theorem zBF{l l':List Nat}:zAj A (l++l')=true↔zAj A l=true∧zAj A l'=true:=by
 simp only[zAi,List.mem_append]
 exact⟨fun h=>⟨fun i hi=>h i (.inl hi),fun i hi=>h i (.inr hi)⟩,fun h i hi=>hi.elim (h.1 i) (h.2 i)⟩
theorem zIQ:∀{ts:List PTy} {xs:List SV} {ob:Prop} {ps:List PV},zJP A ts xs=some (ob,ps)→ob→zM B X F A β ϕ w→SV.oks β xs→zAj A (zAZ xs)=true→zMQ A ts xs→zBt ts →
  zI6 w ts ps (SV.vals β xs) ((zHg ts xs).map ϕ).flatten
 | [],[],ob,ps,h,hob,hp,hk,ho,ha,hT=>by cases h;exact .nil
 | [],x :: xs,ob,ps,h,hob,hp,hk,ho,ha,hT=>by cases h
 | t :: ts,[],ob,ps,h,hob,hp,hk,ho,ha,hT=>by cases h
 | t :: ts,x :: xs,ob,ps,h,hob,hp,hk,ho,ha,hT=>by
  simp only[zJP] at h
  split at h
  ·rename_i o1 p o2 qs h1 h2
   cases h
   obtain⟨hT1,hT2⟩:=zJO hT
   simp only[zAZ,zBF] at ho
   simp only[zHg,List.map_append,List.flatten_append,SV.vals]
   exact .cons (zN5 h1 hob.1 hp hk.1 ho.1 ha.1 hT1) (zIQ h2 hob.2 hp hk.2 ho.2 ha.2 hT2)
  ·cases h
theorem zKN:∀{ts:List PTy} {xs:List SV} {ob:Prop} {ps:List PV},zJP A ts xs=some (ob,ps)→zM B X F A β ϕ w→zAj A (zAZ xs)=true→zMQ A ts xs→∀h∈zHg ts xs,zPG A ϕ h
 | [],[],ob,ps,hr,hp,ho,ha=>by simp[zHg]
 | [],x :: xs,ob,ps,hr,hp,ho,ha=>by cases hr
 | t :: ts,[],ob,ps,hr,hp,ho,ha=>by cases hr
 | t :: ts,x :: xs,ob,ps,hr,hp,ho,ha=>by
  simp only[zJP] at hr
  split at hr
  ·rename_i o1 p o2 qs h1 h2
   simp only[zAZ,zBF] at ho
   intro h hh
   simp only[zHg,List.mem_append] at hh
   rcases hh with hh | hh
   ·have hs:h∈zZ x.cells→zPG A ϕ h:=fun hm=>zHs hp (zAi.1 ho.1 h hm)
    have ha1:=ha.1
    unfold zPO at hh
    split at hh
    ·rename_i T i off
     simp only[List.mem_singleton] at hh
     subst hh
     simp only[zSj] at ha1
     split at ha1
     ·rename_i T' es hA
      exact⟨_,hA,by simp,rfl,zAR.nd (hp.sat _ _ hA),rfl⟩
     ·exact ha1.elim
    ·exact hs hh
   ·exact zKN h2 hp ho.2 ha.2 h hh
  ·cases hr
theorem zRx.arg{t:PTy}{p:PV}{v:Value}{f:List Nat}(h:zLp w t p v f)(ht:(∃ts,t=.agg ts)∨∃T,t=.list T):zNn w t p v f:=by
 rcases ht with ⟨ts,rfl⟩ | ⟨T,rfl⟩
 ·exact h
 ·obtain⟨fs,hL,rfl⟩:=h
  cases hL with
  | list hO hr=>cases hr;exact⟨_,rfl,by simpa using hO⟩
theorem zED:∀{l:List PTy} {i:Nat} {cs:List SV} {o:Prop} {ps:List PV} {cs0:List Value},zF0 l i cs=some (o,ps)→o→zD2 β l i cs0→cs0.length=l.length→SV.oks β cs→KpS l ps cs0 (SV.vals β cs)
 | [],i,cs,o,ps,cs0,h,ho,hk,hl,hok=>by
  cases cs with
  | nil=>cases h;cases cs0<;>first | exact .nil | (simp at hl)
  | cons c cs=>cases h
 | t :: ts,i,cs,o,ps,[],h,ho,hk,hl,hok=>by simp at hl
 | t :: ts,i,[],o,ps,c0 :: cs0,h,ho,hk,hl,hok=>by cases t<;>cases h
 | t :: ts,i,c :: cs,o,ps,c0 :: cs0,h,ho,hk,hl,hok=>by
  have hl':cs0.length=ts.length:=by simpa using hl
  cases t with
  | int k=>
   cases c<;>simp only[zF0,reduceCtorEq] at h
   split at h
   ·rename_i o1 ps1 h1
    simp only[Option.some.injEq,Prod.mk.injEq] at h
    obtain⟨rfl,rfl⟩:=h
    obtain⟨rfl,ho⟩:=ho
    exact .int hok.1 (zED h1 ho hk hl' hok.2)
   ·cases h
  | bool=>
   cases c<;>simp only[zF0,reduceCtorEq] at h
   split at h
   ·rename_i o1 ps1 h1
    simp only[Option.some.injEq,Prod.mk.injEq] at h
    obtain⟨rfl,rfl⟩:=h
    exact .bool (zED h1 ho hk hl' hok.2)
   ·cases h
  | str=>
   cases c<;>simp only[zF0,reduceCtorEq] at h
   split at h
   ·rename_i o1 ps1 h1
    simp only[Option.some.injEq,Prod.mk.injEq] at h
    obtain⟨rfl,rfl⟩:=h
    exact .str hok.1 (zED h1 ho hk hl' hok.2)
   ·cases h
  | list T=>
   cases c<;>simp only[zF0,reduceCtorEq] at h
   split at h
   ·rename_i o1 ps1 h1
    simp only[Option.some.injEq,Prod.mk.injEq] at h
    obtain⟨rfl,rfl⟩:=h
    obtain⟨rfl,ho⟩:=ho
    obtain⟨rfl,hk⟩:=hk
    exact .list (zED h1 ho hk hl' hok.2)
   ·cases h
  | _=>cases h
theorem zBe{w':World}:∀{ts:List (Md × PTy)} {xs:List SV} {ob:Prop} {ps:List PV},zB0 A ts xs=some (ob,ps)→ob→zM B X F A β ϕ w→SV.oks β xs→(∀i o t cs,lk A i=some (.box o t cs)→SV.oks β cs)→zAj A (zEK A ts xs)=true→zOJ ts→zLt w' β ts xs →
  zH6 w' w ts ps (SV.vals β xs) ((zH8 A ts xs).map ϕ).flatten∧∀h∈zH8 A ts xs,zPG A ϕ h
 | [],[],ob,ps,h,hob,hp,hk,hbx,ho,hT,hX=>by cases h;exact⟨.nil,by simp[zH8]⟩
 | [],x :: xs,ob,ps,h,hob,hp,hk,hbx,ho,hT,hX=>by cases h
 | (m,t) :: ts,[],ob,ps,h,hob,hp,hk,hbx,ho,hT,hX=>by cases m<;>(try cases h)<;>cases t<;>cases h
 | (m,t) :: ts,x :: xs,ob,ps,h,hob,hp,hk,hbx,ho,hT,hX=>by
  cases m with
  | rd=>
   obtain⟨r1,r2⟩:=zBe (ts:=ts) (xs:=xs) h hob hp hk.2 hbx ho (by cases t<;>exact hT) hX
   exact⟨.rd r1,r2⟩
  | ow=>
   obtain⟨r1,r2⟩:=zBe (ts:=ts) (xs:=xs) h hob hp hk.2 hbx ho (by cases t<;>exact hT) hX
   exact⟨.ow r1,r2⟩
  | bx=>
   have hT2:zOJ ts:=by cases t<;>exact hT
   cases t with
   | box l=>
    cases x with
    | ptr i off=>
     cases off with
     | zero=>
      simp only[zB0] at h
      split at h
      case h_2=>cases h
      rename_i tt cs hA
      split at h
      case h_2=>cases h
      rename_i o1 p o2 qs h1 h2
      simp only[Option.some.injEq,Prod.mk.injEq] at h
      obtain⟨rfl,rfl⟩:=h
      simp only[zEK,zOr,hA,zBF] at ho
      obtain⟨r1,r2⟩:=zBe h2 hob.2 hp hk.2 hbx ho.2 hT2 hX.2
      obtain⟨b,t',hb,hϕ,hblk⟩:=hp.sat _ _ hA
      obtain⟨b2,t2,cs0,hb2,hblk2,hl0⟩:=hX.1
      have:b2=b:=by
       rw[hb] at hb2;simp only[Value.pointer.injEq,Option.some.injEq,Addr.mk.injEq] at hb2;exact hb2.1.symm
      subst this
      have hLo:LoD w l p (SV.vals β cs) (zEz ϕ cs):=zAL h1 hob.1.1 (hbx _ _ _ _ hA) fun h hh o T es p' hA'=>by
       obtain⟨T',es',p2,e⟩:=zC4.1 (zAi.1 ho.1 h hh)
       rw[e] at hA';cases hA'
       exact hp.sat _ _ e
      constructor
      ·have hx:OutX w' w (.box l) (.agg p) (SV.val β (.ptr i 0)) (b2 :: (zEz ϕ cs).flatten):=
        ⟨p,cs0,SV.vals β cs,zEz ϕ cs,b2,t2,t',(β i).pre,(β i).post,rfl,by simp[SV.val,hb],hblk2,hl0,hblk,hLo,rfl⟩
       have:=zH6.bx hx r1
       simp only[zH8,zOr,hA,List.map_append,List.map_cons,List.flatten_append,List.flatten_cons,hϕ,←zAN,List.cons_append,List.append_assoc,List.nil_append,SV.vals] at this ⊢
       exact this
      ·intro h hh
       simp only[zH8,zOr,hA,List.mem_cons,List.mem_append] at hh
       rcases hh with rfl | hh | hh
       ·exact⟨_,hA,by simp,rfl,by rw[hϕ];simp,rfl⟩
       ·exact zHs hp (zAi.1 ho.1 h hh)
       ·exact r2 h hh
     | succ n=>simp[zB0] at h
    | _=>simp[zB0] at h
   | abx T=>
    cases x with
    | ptr i off=>
     cases off with
     | zero=>
      simp only[zB0] at h
      split at h
      case h_2=>cases h
      rename_i T' es hA
      split at h
      case h_2=>cases h
      rename_i o2 qs h2
      simp only[Option.some.injEq,Prod.mk.injEq] at h
      obtain⟨rfl,rfl⟩:=h
      simp only[zEK,zOr,hA,zZ,List.nil_append] at ho
      obtain⟨r1,r2⟩:=zBe h2 hob.2 hp hk.2 hbx ho hT2 hX.2
      have:=hob.1
      subst this
      have hab:zAR w T' es (β i).v (ϕ i):=hp.sat _ _ hA
      obtain⟨b,hv⟩:=hab.ptr
      have hvv:SV.val β (.ptr i 0)=(β i).v:=by simp[SV.val,hv]
      constructor
      ·have hx:OutX w' w (.abx T') (.list es) (SV.val β (.ptr i 0)) (ϕ i):=⟨es,rfl,by rw[hvv];exact hab⟩
       have:=zH6.bx hx r1
       simp only[zH8,zOr,hA,zZ,List.map_cons,List.flatten_cons,List.nil_append,SV.vals] at this ⊢
       exact this
      ·intro h hh
       simp only[zH8,zOr,hA,zZ,List.nil_append,List.mem_cons] at hh
       rcases hh with rfl | hh
       ·exact⟨_,hA,by simp,rfl,hab.nd,rfl⟩
       ·exact r2 h hh
     | succ n=>simp[zB0] at h
    | _=>simp[zB0] at h
   | _=>cases x<;>simp[zB0] at h
  | bs=>
   have hT2:zOJ ts:=by cases t<;>exact hT
   cases t with
   | box l=>
    cases x with
    | ptr i off=>
     cases off with
     | zero=>
      simp only[zB0] at h
      split at h
      case h_2=>cases h
      rename_i tt cs hA
      split at h
      case h_2=>cases h
      rename_i o1 p o2 qs h1 h2
      simp only[Option.some.injEq,Prod.mk.injEq] at h
      obtain⟨rfl,rfl⟩:=h
      obtain⟨r1,r2⟩:=zBe h2 hob.2 hp hk.2 hbx ho hT2 hX.2
      obtain⟨b,t',hb,hϕ,hblk⟩:=hp.sat _ _ hA
      obtain⟨b2,t2,cs0,hb2,hblk2,hl0,_,hkp⟩:=hX.1
      have:b2=b:=by
       rw[hb] at hb2;simp only[Value.pointer.injEq,Option.some.injEq,Addr.mk.injEq] at hb2;exact hb2.1.symm
      subst this
      have hKp:=zED h1 hob.1.1 hkp hl0 (hbx _ _ _ _ hA)
      constructor
      ·have hx:OutS w' w (.box l) (.agg p) (SV.val β (.ptr i 0)) b2:=
        ⟨p,cs0,SV.vals β cs,t2,t',(β i).pre,(β i).post,rfl,by simp[SV.val,hb],hblk2,hl0,hblk,hKp⟩
       have:=zH6.bs hx r1
       simp only[zH8,List.map_cons,List.flatten_cons,hϕ,List.cons_append,List.nil_append,SV.vals] at this ⊢
       exact this
      ·intro h hh
       simp only[zH8,List.mem_cons] at hh
       rcases hh with rfl | hh
       ·exact⟨_,hA,by simp,rfl,by rw[hϕ];simp,rfl⟩
       ·exact r2 h hh
     | succ n=>simp[zB0] at h
    | _=>simp[zB0] at h
   | _=>cases x<;>simp[zB0] at h
  | mt=>
   simp only[zB0] at h
   split at h
   ·rename_i o1 p o2 qs h1 h2
    cases h
    simp only[zEK,zBF] at ho
    have ht:(∃ts,t=.agg ts)∨∃T,t=.list T:=by cases t<;>first | exact hT.elim | exact .inl ⟨_,rfl⟩ | exact .inr ⟨_,rfl⟩
    have hT1:zDo [t]:=by rcases ht with ⟨ts,rfl⟩ | ⟨T,rfl⟩<;>trivial
    have hT2:zOJ ts:=by cases t<;>first | exact hT.elim | exact hT
    obtain⟨r1,r2⟩:=zBe h2 hob.2 hp hk.2 hbx ho.2 hT2 hX
    constructor
    ·simp only[zH8,List.map_append,List.flatten_append,SV.vals]
     exact .mt (zRx.arg (zIU h1 hob.1 hp hk.1 ho.1 hT1) ht) r1
    ·intro h hh
     simp only[zH8,List.mem_append] at hh
     rcases hh with hh | hh
     ·exact zHs hp (zAi.1 ho.1 h hh)
     ·exact r2 h hh
   ·cases h
theorem zN7{T:PTy}{x:SV}{ob:Prop}{p:PV}(h:yR A T x=some (ob,p))(hob:ob)(hp:zM B X F A β ϕ w)(hk:SV.ok β x)(hT:zDo [T]) :
  ∃f,RetN w T p (SV.val β x) f∧∀b∈f,b∈F∨B≤b:=by
 have lists:∀{us:List PTy} {ys:List SV} {o:Prop} {rs:List PV},zw A us ys=some (o,rs)→o→SV.oks β ys→∃f,Lv w us rs (SV.vals β ys) f∧∀b∈f,b∈F∨B≤b:=by
  intro us ys o rs q1 q2 q3
  obtain⟨f,q4,q5⟩:=zAx q1 q2 hp q3
  refine⟨f,q4,fun b hb=>?_⟩
  obtain⟨i,hi,hl,e1,e2,e3⟩:=q5 b hb
  obtain⟨hl',e4,e5⟩:=zEC q1 i hi
  rw[e1] at e4;cases e4
  exact hp.all i hl e1 e5.isA b e3
 have leaf:∀(h':yc A T x=some (ob,p)),∃f,Lv w [T] [p] [SV.val β x] f∧∀b∈f,b∈F∨B≤b:=fun h'=>
  lists (us:=[T]) (ys:=[x]) (o:=ob∧True) (rs:=[p]) (by simp[zw,h']) ⟨hob,trivial⟩ ⟨hk,trivial⟩
 cases T with
 | agg ts=>
  cases x with
  | agg xs=>
   simp only[yR] at h
   split at h
   ·rename_i o ps hps
    simp only[Option.some.injEq,Prod.mk.injEq] at h
    obtain⟨rfl,rfl⟩:=h
    obtain⟨f,q1,q2⟩:=lists hps hob hk
    exact⟨f,⟨ps,_,rfl,rfl,q1⟩,q2⟩
   ·cases h
  | _=>simp[yR,yc] at h
 | box ts=>exact hT.elim
 | abx t=>exact hT.elim
 | fn g ts=>exact hT.elim
 | opq=>exact hT.elim
 | int k=>cases x<;>first | (simp[yR,yc] at h;done) | exact leaf (by simpa[yR] using h)
 | bool=>cases x<;>first | (simp[yR,yc] at h;done) | exact leaf (by simpa[yR] using h)
 | str=>cases x<;>first | (simp[yR,yc] at h;done) | exact leaf (by simpa[yR] using h)
 | list T=>cases x<;>first | (simp[yR,yc] at h;done) | exact leaf (by simpa[yR] using h)
theorem zIS:∀{ts:List PTy} {xs:List SV} {ob:Prop} {ps:List PV},zF3 A ts xs=some (ob,ps)→ob→zM B X F A β ϕ w→SV.oks β xs→zDo ts →
  ∃f,zLq w ts ps (SV.vals β xs) f∧∀b∈f,b∈F∨B≤b
 | [],[],ob,ps,h,hob,hp,hk,hT=>by cases h;exact⟨[],.nil,by simp⟩
 | [],x :: xs,ob,ps,h,hob,hp,hk,hT=>by cases h
 | t :: ts,[],ob,ps,h,hob,hp,hk,hT=>by cases h
 | t :: ts,x :: xs,ob,ps,h,hob,hp,hk,hT=>by
  simp only[zF3] at h
  split at h
  ·rename_i o1 p o2 qs h1 h2
   cases h
   obtain⟨hT1,hT2⟩:=zLG hT
   obtain⟨f,q1,q2⟩:=zN7 h1 hob.1 hp hk.1 hT1
   obtain⟨g,q3,q4⟩:=zIS h2 hob.2 hp hk.2 hT2
   exact⟨f++g,.cons q1 q3,fun b hb=>(List.mem_append.1 hb).elim (q2 b) (q4 b)⟩
  ·cases h
theorem zEL(hE:zAd P E)(sat:Sat N w0 X F S β ϕ a w)(g:ResultVar→Sem Value)(hg:∀t,g (.tmp t)=pure (a.tmps.getD t undef))(hc:∀t ty,g (.cell t ty)=asAddr (a.tmps.getD t undef) >>= fun x=>loadVar ty x) :
  ∀{outs:List ResultVar} {xs:List SV},zHr E S outs=some xs→(outs.mapM g).run P w=.ok (SV.vals β xs) w∧SV.oks β xs∧SV.lts S.n xs∧xs.length=outs.length
 | [],xs,h=>by cases h;exact⟨rfl,trivial,trivial,rfl⟩
 | .tmp t :: ts,xs,h=>by
  simp only[zHr] at h
  split at h
  ·rename_i x ys hx hy
   cases h
   obtain⟨h1,h2,h3,h4⟩:=zEL hE sat g hg hc hy
   obtain⟨q1,q2,q3⟩:=sat.lp t x hx
   refine⟨?_,⟨q3,h2⟩,⟨q2,h3⟩,by simp[h4]⟩
   simp only[List.mapM_cons,Sem.run_bind,Sem.run_pure,Result.andThen_ok,h1,hg,SV.vals,Array.getD_eq_getD_getElem?,q1,Option.getD_some]
  ·cases h
 | .cell t ty :: ts,xs,h=>by
  simp only[zHr] at h
  split at h
  ·rename_i i ys hx hy
   split at h
   ·rename_i ow bt cs ti hl hti
    split at h
    ·rename_i hcond
     cases h
     simp only[Bool.and_eq_true,beq_iff_eq] at hcond
     obtain⟨hA,hlen⟩:=hcond
     obtain⟨h1,h2,h3,h4⟩:=zEL hE sat g hg hc hy
     obtain⟨q1,q2,b,oo,hb⟩:=sat.lp t _ hx
     obtain⟨b',bt',hb',hϕ,hold⟩:=sat.hp.sat _ _ hl
     rw[hb] at hb'
     simp only[Value.pointer.injEq,Option.some.injEq,Addr.mk.injEq,and_true] at hb'
     obtain⟨rfl,rfl⟩:=hb'
     simp only[SV.val,hb,Nat.add_zero] at q1
     obtain⟨k1,k2⟩:=(sat.hb _ _ hl).2
     have hag:=zB6 (hE _ _ hti)
     have hsz:=yk (hE _ _ hti)
     have hcl:(SV.vals β cs).length=cs.length:=by simp[SV.vals_map]
     have hlc:=yG (P:=P) b ((β i).pre.length+0) ti.sz _ bt' (0,0) hold (by simp[hcl,hlen])
     rw[List.toList_toArray,zKZ _ _ _ (by rw[hcl];omega)] at hlc
     have hall:((SV.vals β cs).drop 0).take ti.sz=SV.vals β cs:=by
      rw[List.drop_zero,List.take_of_length_le (by simp[SV.vals_map,hlen])]
     simp only[hall,Nat.add_zero] at hlc
     refine⟨?_,⟨k2,h2⟩,⟨k1,h3⟩,by simp[h4]⟩
     simp only[List.mapM_cons,Sem.run_bind,Sem.run_pure,Result.andThen_ok,h1,hc,SV.vals,SV.val,Array.getD_eq_getD_getElem?,q1,Option.getD_some,asAddr,loadVar,hag,hsz,hA,if_true,hlc]
    ·cases h
   ·cases h
  ·cases h
theorem zDp{fn:Func}{outs:List ResultVar}(h:fn.results=outs.toArray)(tmps:Array Value)(w:World)(g:ResultVar→Sem Value)(hg:∀t,g (.tmp t)=pure (tmps.getD t undef))(hc:∀t ty,g (.cell t ty)=asAddr (tmps.getD t undef) >>= fun x=>loadVar ty x)
  {vs:List Value} (hv:(outs.mapM g).run P w=.ok vs w) (hlen:vs.length=outs.length):(results fn tmps).run P w=.ok (zLI vs) w:=by
 have hgg:∀g':ResultVar→Sem Value,(∀t,g' (.tmp t)=pure (tmps.getD t undef))→(∀t ty,g' (.cell t ty)=asAddr (tmps.getD t undef) >>= fun x=>loadVar ty x)→outs.mapM g'=outs.mapM g:=by
  intro g' h1 h2
  have:g'=g:=by
   funext r
   cases r with
   | tmp t=>rw[h1,hg]
   | cell a t=>rw[h2,hc]
  rw[this]
 unfold results
 rw[h,List.mapM_toArray]
 simp only[Sem.run_bind,Sem.run_map,Result.andThen_ok]
 rw[hgg _ (fun _=>rfl) (fun _ _=>rfl),hv]
 simp only[Result.andThen_ok,Sem.run_pure]
 match vs with
 | []=>rfl
 | [x]=>rfl
 | x :: y :: l=>simp[zLI]
theorem zGJ:∀{xs:List SV} {i t:Nat} {v:SV},lk (zOG i xs) t=some v→i≤t∧xs[t - i]?=some v
 | [],i,t,v,h=>by cases h
 | x :: xs,i,t,v,h=>by
  simp only[zOG,lk] at h
  split at h
  ·rename_i e;subst e;cases h;simp
  ·rename_i e
   obtain⟨h1,h2⟩:=zGJ h
   refine⟨by omega,?_⟩
   rw[show t - i=(t - (i+1))+1 by omega]
   simpa using h2
theorem zAQ.lens{ts:List (Md × PTy)}{ps:List PV}{vs:List Value}{f fl ms:List Nat}(h:zAQ w ts ps vs f fl ms):ts.length=vs.length:=by
 induction h with
 | nil=>rfl
 | rd _ _ ih=>simp[ih]
 | mt _ _ ih=>simp[ih]
 | ow _ _ ih=>simp[ih]
 | bx _ _ ih=>simp[ih]
 | bs _ _ ih=>simp[ih]
theorem zAQ.rdms{ts:List (Md × PTy)}{ps:List PV}{vs:List Value}{f fl ms:List Nat}(h:zAQ w ts ps vs f fl ms)(hr:zA7 ts=true):ms=[]:=by
 induction h with
 | nil=>rfl
 | rd _ _ ih=>exact ih hr
 | mt _ _ _=>simp[zA7] at hr
 | ow _ _ _=>simp[zA7] at hr
 | bx _ _ _=>simp[zA7] at hr
 | bs _ _ _=>simp[zA7] at hr
theorem zJV{fid:FuncId}{fn:Func}{c:Code}{s:zP}{keep:List Nat}{outs:List ResultVar}(G:(List KI→St→Prop)→Prop)(hG:∀C:Cx,C.Ok→C.P=P→C.N=fn.ntmps→C.keep=keep→G (WP C))(hE:zCQ P E)(hm:P.follows .mixedOrders=true)(hf:P.funcs[fid]?=some fn)(hb:fn.body=some c)
  (hr:fn.results=outs.toArray) (hp:s.args.length≤fn.ntmps) (hkeep:∀i,i < s.args.length→keep.contains i=true)
  (h:∀ps,TyA s.args ps→s.pre ps→∀W,zI4 E fn.ntmps keep (zg 0 s.args ps).2.2 (zLj E outs s (zg 0 s.args ps).1 ps) W→G W →
   W [.code c] ⟨zOG 0 (zg 0 s.args ps).1,[],(zg 0 s.args ps).2.1,(zg 0 s.args ps).2.2⟩):zJ9 P fid s:=by
 intro w ps vs fs fl ms hA hnd hdis hpre hgl
 have h0:zM w.heap.size ms (fl++ms) [] (fun _=>⟨Value.bool false,[],[]⟩) (fun _=>[]) w:=
  ⟨fun _=>rfl,fun _ _ h=>(by cases h),fun _ _ h=>(by cases h),fun _ _ h=>(by cases h),fun _ _ h=>(by cases h),fun _ _ _ _ h=>(by cases h),fun _ _ h=>(by cases h),fun _ _ h=>(by cases h)⟩
 obtain⟨β,ϕ,⟨e1,e2,e3,e4,e5,e6,e7,e8,e9⟩,hold⟩:=zEO s.args ps vs fs fl ms 0 [] _ _ hA h0 (fun i hl h=>(by cases h)) rfl (fun b hb hm=>hdis b hm hb) (fun b hb=>by simp[hb]) (fun b hb=>⟨hb,by simp[hb]⟩) hnd (fun i hl h=>(by cases h))
 have hlen:=hA.lens
 have hlen2:(zg 0 s.args ps).1.length=vs.length:=by rw[←e5,SV.vals_map];simp
 let fin:=zLj E outs s (zg 0 s.args ps).1 ps
 let Rr:Ending→World→Prop:=fun e w'=>∃rvs,e=.returned (zLI rvs)∧Done w s ps vs fl ms rvs w'
 let C:Cx:=⟨P,E,fn.ntmps,w,ms,fl++ms,keep,(zg 0 s.args ps).2.2,β,bodyPost P fn Rr,fin⟩
 have hfin:∀S a w',At C S a w'→fin S→a.defers=[]∧∃v,(results fn a.tmps).run P w'=.ok v w'∧Rr (.returned v) w':=by
  intro S a w' hat hS
  obtain⟨kp,hn,β1,ϕ1,sat,hsame⟩:=hat
  unfold fin zLj at hS
  split at hS
  ·exact hS.elim
  ·rename_i xs hxs
   let g:ResultVar→Sem Value:=fun r=>match r with | .tmp t=>pure (a.tmps.getD t undef) | .cell t ty=>asAddr (a.tmps.getD t undef) >>= fun x=>loadVar ty x
   obtain⟨v1,v2,v3,v4⟩:=zEL hE.ty sat g (fun _=>rfl) (fun _ _=>rfl) hxs
   refine⟨sat.df,_,zDp hr a.tmps w' g (fun _=>rfl) (fun _ _=>rfl) v1 (by simp[SV.vals_map,v4]),_,rfl,sat.fr,?_⟩
   have hsame1:SV.vals β1 (zg 0 s.args ps).1=vs:=by
    rw[SV.vals_congr (fun k hk=>hsame k hk) _ e6];exact e5
   have hok1:SV.oks β1 (zg 0 s.args ps).1:=SV.oks_congr (fun k hk=>hsame k hk) _ e6 e7
   cases hfs:s.fresh with
   | true=>
    rw[hfs] at hS
    simp only[if_true] at hS
    obtain⟨hret,f0,f1,f2⟩:=hS
    obtain⟨ϕ2,p1,p2,_⟩:=zCY (zAZ xs++zEK S.A s.args (zg 0 s.args ps).1) sat.hp sat.hb
    unfold zQU at f2
    split at f2
    ·rename_i o rs o' qs hrs hqs
     obtain⟨g1,g2,g3,g4,g5,g8⟩:=f2
     obtain⟨g6,g7⟩:=zBF.1 g5
     have hR:=zIQ hrs g1 p1 v2 g6 g8 hret
     obtain⟨hO,hLt⟩:=zBe (w':=w) hqs g3 p1 hok1 (fun i o t cs hi=>(p2 _ _ hi).2.2) g7 f0 (hold.congr hsame e6)
     rw[hsame1,g4] at hO
     rw[g2] at hR
     have hLents:∀h∈zHg s.ret xs++zH8 (zAI S.A (zAZ xs++zEK S.A s.args (zg 0 s.args ps).1)) s.args (zg 0 s.args ps).1,zPG (zAI S.A (zAZ xs++zEK S.A s.args (zg 0 s.args ps).1)) ϕ2 h:=by
      intro h hh
      rcases List.mem_append.1 hh with hh | hh
      ·exact zKN hrs p1 g6 g8 h hh
      ·exact hLt h hh
     refine .inl ⟨rfl,_,_,hR,hO,?_,?_⟩
     ·rw[←List.flatten_append,←List.map_append]
      exact zGL p1 hLents (zHn.1 f1)
     ·rw[←List.flatten_append,←List.map_append]
      intro b hb
      obtain⟨i,hi,hl,e1,e2⟩:=zEM hLents b hb
      exact p1.own i _ e1 b e2
    ·exact f2.elim
   | false=>
    rw[hfs] at hS
    simp only[Bool.false_eq_true,if_false] at hS
    obtain⟨hret,f1,f2⟩:=hS
    split at f2
    ·rename_i o rs hrs
     obtain⟨g1,g2⟩:=f2
     obtain⟨f,q1,q2⟩:=zIS hrs g1 sat.hp v2 hret
     rw[g2] at q1
     have hms:=hA.rdms f1
     refine .inr ⟨rfl,f1,f,q1,fun b hb=>?_⟩
     have:=q2 b hb
     have hF:C.F=fl++ms:=rfl
     rw[hF,hms,List.append_nil] at this
     exact this
    ·exact f2.elim
 have hC:C.Ok:=⟨hE,hm,fun S a w' hat hS=>⟨hfin S a w' hat hS,hfin S a w' hat hS⟩,fun c a d v w h=>⟨by have h1:=h.1;cases d<;>exact h1,h.2⟩⟩
 refine calls_of_wp hf hb ?_
 have hW:=h ps hA.ty hpre (WP C) (zHe hC) (hG C hC rfl rfl rfl)
 refine hW _ w ⟨⟨?_,fun t x h=>(by cases h)⟩,Nat.le_refl _,β,ϕ,⟨rfl,?_,?_,fun t g v h=>(by cases h),by simpa using e1,(by simpa using e2:Bd _ _ _),Fr.refl _ _,hgl⟩,fun h _=>rfl⟩
 ·intro t v ht
  obtain⟨h1,h2⟩:=zGJ ht
  obtain⟨h3,_⟩:=List.getElem?_eq_some_iff.1 h2
  exact hkeep t (by simp only[Nat.sub_zero] at h3;omega)
 ·show(vs.toArray++Array.replicate (fn.ntmps - vs.toArray.size) undef).size=fn.ntmps
  simp;omega
 ·intro t v ht
  obtain⟨_,h2⟩:=zGJ ht
  simp only[Nat.sub_zero] at h2
  have hm1:=List.mem_of_getElem? h2
  refine⟨?_,SV.lts_iff.1 e6 v hm1,SV.oks_iff.1 e7 v hm1⟩
  obtain⟨h3,_⟩:=List.getElem?_eq_some_iff.1 h2
  show(vs.toArray++Array.replicate (fn.ntmps - vs.toArray.size) undef)[t]?=_
  rw[Array.getElem?_append_left (by simp;omega)]
  rw[←e5,SV.vals_map]
  simp[h2]
end
def zND:TypeDesc→List (Nat × Nat)
 | .struct fs=>fs.toList.map fun f=>(f.offset,f.type)
 | _=>[]
def aggOf:TypeDesc→Bool
 | .struct _=>true
 | .array _ _=>true
 | _=>false
def lfB:PTy→Bool
 | .agg _=>false
 | .fn _ _=>false
 | _=>true
theorem zS{P:Program}{t:TypeId}{ti:TI}{i:TypeInfo}{z:Value}(h1:P.underlying t=some ti.d)(h2:P.info? t=some i)(h3:i.size=ti.sz)(h4:i.bytes=ti.bytes)(h5:i.zero=some z)
  (h6:z.cells=(ti.leaves.map zCm).toArray) (h7:ti.agg=aggOf ti.d) (h8:ti.flds=zND ti.d) (h9:(ti.flds.all fun f=>(P.info? f.2).isSome)=true) (h10:0 < ti.sz) (h11:0 < ti.bytes) (h12:ti.agg=false→ti.sz=1)
  (h13:ti.leaves.all lfB=true) (h14:ti.eqb=true→P.stoodInHeld t=false∧P.eqGuardType P.depth t=false):yt P t ti:=by
 refine⟨h1,⟨i,h2,h3,h4,z,h5,h6⟩,?_,?_,?_,h10,h11,h12,fun t ht=>?_,fun t ht f l e=>?_,h14⟩
 ·rw[h7];cases ti.d<;>rfl
 ·intro f off ft hf
  rw[h8] at hf
  cases hd:ti.d<;>rw[hd] at hf<;>simp only[zND,List.getElem?_nil,reduceCtorEq] at hf
  rename_i fs
  simp only[List.getElem?_map,Option.map_eq_some_iff,Array.getElem?_toList,Prod.mk.injEq] at hf
  obtain⟨fd,h,h1,h2⟩:=hf
  exact⟨fs,fd,rfl,h,h1,h2⟩
 ·intro fs hd f hf
  rw[h8,hd] at h9
  have:=List.all_eq_true.1 h9 (f.offset,f.type) (by simp only[zND,List.mem_map];exact⟨f,by simpa using hf,rfl⟩)
  exact Option.isSome_iff_exists.1 this
 ·have:=List.all_eq_true.1 h13 t ht
  cases t<;>first | rfl | (simp[lfB] at this)
 ·have:=List.all_eq_true.1 h13 t ht
  subst e
  simp[lfB] at this
def yQ(P:Program)(f:FuncId)(s:zP):Prop:=zJ9 P f s∧∃fn,P.funcs[f]?=some fn∧fn.body.isNone=false∧(fn.name == "runtime.NumGoroutine")=false
theorem zG{P:Program}{tab:List (Nat × TI)}(h:zAd P ⟨tab,[]⟩):zCQ P ⟨tab,[]⟩:=⟨h,fun f cs s h=>(by cases h)⟩
theorem zA{P:Program}{tab:List (Nat × TI)}{l:List ((Nat × List Nat) × zP)}{f:Nat}{cs:List Nat}{s:zP}(hf:yQ P f s)(h:zCQ P ⟨tab,l⟩):zCQ P ⟨tab,((f,cs),s) :: l⟩:=by
 refine⟨h.ty,fun g ds t hg=>?_⟩
 simp only[zDi] at hg
 split at hg
 ·rename_i e
  cases hg
  obtain⟨rfl,_⟩:=e
  exact hf
 ·exact h.fn g ds t hg
theorem zHP{P:Program}{E:Env}{fid:FuncId}{fn:Func}{c:Code}{s:zP}(keep:List Nat)(outs:List ResultVar)(G:(List KI→St→Prop)→Prop)(hG:∀C:Cx,C.Ok→C.P=P→C.N=fn.ntmps→C.keep=keep→G (WP C))(hE:zCQ P E)(hm:P.follows .mixedOrders=true)(hf:P.funcs[fid]?=some fn)(hb:fn.body=some c)
  (hn:(fn.name == "runtime.NumGoroutine")=false) (hr:fn.results=outs.toArray) (hp:s.args.length≤fn.ntmps) (hkeep:(List.range s.args.length).all (keep.contains ·)=true)
  (h:∀ps,TyA s.args ps→s.pre ps→∀W,zI4 E fn.ntmps keep (zg 0 s.args ps).2.2 (zLj E outs s (zg 0 s.args ps).1 ps) W→G W →
   W [.code c] ⟨zOG 0 (zg 0 s.args ps).1,[],(zg 0 s.args ps).2.1,(zg 0 s.args ps).2.2⟩):yQ P fid s:=
 ⟨zJV G hG hE hm hf hb hr hp (fun i hi=>List.all_eq_true.1 hkeep i (by simpa using hi)) h,fn,hf,by rw[hb];rfl,hn⟩
theorem zf{P:Program}{E:Env}{fid:FuncId}{fn:Func}{c:Code}{s:zP}(keep:List Nat)(outs:List ResultVar)(hE:zCQ P E)(hm:P.follows .mixedOrders=true)(hf:P.funcs[fid]?=some fn)(hb:fn.body=some c)
  (hn:(fn.name == "runtime.NumGoroutine")=false) (hr:fn.results=outs.toArray) (hp:s.args.length≤fn.ntmps) (hkeep:(List.range s.args.length).all (keep.contains ·)=true)
  (h:∀ps,TyA s.args ps→s.pre ps→∀W,zI4 E fn.ntmps keep (zg 0 s.args ps).2.2 (zLj E outs s (zg 0 s.args ps).1 ps) W →
   W [.code c] ⟨zOG 0 (zg 0 s.args ps).1,[],(zg 0 s.args ps).2.1,(zg 0 s.args ps).2.2⟩):yQ P fid s:=
 zHP keep outs (fun _=>True) (fun _ _ _ _ _=>trivial) hE hm hf hb hn hr hp hkeep fun ps h1 h2 W hW _=>h ps h1 h2 W hW
end
section
variable [ze]
def nth(es:List PV)(i:Nat):PV:=es.getD i PV.d
theorem zOI(es:List PV)(i:Nat):es.getD i PV.d=nth es i:=rfl
theorem zF(a:PV)(l:List PV):nth (a :: l) 0=a:=rfl
theorem zK(a:PV)(l:List PV)(n:Nat):nth (a :: l) (n+1)=nth l n:=rfl
theorem zAS(k:IntKind)(n:Int):(PV.int k n).I=n:=rfl
theorem zNj(n:Bool):(PV.bool n).B=n:=rfl
theorem zCt(n:List UInt8):(PV.str n).S=n:=rfl
theorem zCk(n:List PV):(PV.list n).L=n:=rfl
theorem zBp(n:List PV):(PV.agg n).A=n:=rfl
theorem pv_at(p:PV)(i:Nat):p.at i=nth p.A i:=rfl
theorem zSs(k:IntKind)(n:Int):(PV.int k n).leaves=[.int k n]:=rfl
theorem zQI(n:Bool):(PV.bool n).leaves=[.bool n]:=rfl
theorem zSr(n:List UInt8):(PV.str n).leaves=[.str n]:=rfl
theorem zQG(n:List PV):(PV.list n).leaves=[.list n]:=rfl
theorem zSt(n:List PV):(PV.agg n).leaves=n:=rfl
theorem zB9{es:List PV}{i:Nat}(h:i < es.length):nth es i=es[i]:=by simp[nth,h]
theorem yJ{es:List PV}{i:Nat}(h:i < es.length):nth es i∈es:=by rw[zB9 h];exact List.getElem_mem h
theorem zBC{es:List PV}{i:Nat}(h:i < es.length):es.drop i=nth es i :: es.drop (i+1):=by
 rw[zB9 h];exact(List.drop_eq_getElem_cons h)
theorem zAe{es:List PV}{i:Nat}(h:i < es.length):es.take (i+1)=es.take i++[nth es i]:=by
 rw[zB9 h];exact List.take_succ_eq_append_getElem h
theorem zHm{α:Type}(f:α→PV)(l:List α)(i:Nat)(h:i < l.length):nth (l.map f) i=f l[i]:=by simp[nth,h]
theorem zC{n:Int}(h:-9223372036854775808≤n∧n≤9223372036854775807):IntKind.i64.wrap n=n:=by
 simp[IntKind.wrap,IntKind.signed,IntKind.bits];omega
theorem zQS{n:Int}:inR .i64 n↔-9223372036854775808≤n∧n≤9223372036854775807:=by
 simp[inR,IntKind.min,IntKind.max,IntKind.signed,IntKind.bits]
theorem limN:LIM=140737488355328:=rfl
end
section
variable [ze]
noncomputable def T2:TI:=⟨false,[.int .i64],0,[],8,.int .i64,false⟩
theorem T2_ok:yt Try.prog 2 T2:=zS (i:=Try.t2) Try.underlying2 Try.type2 rfl rfl rfl rfl rfl rfl (by kernel_rfl) (by decide) (by decide) (by decide) rfl (fun h=>by cases h)
theorem T2_sz:T2.sz=1:=rfl
theorem zUC:T2.pty=.int .i64:=rfl
noncomputable def T3:TI:=⟨false,[.int .i64],0,[],8,.int .i64,false⟩
theorem T3_ok:yt Try.prog 3 T3:=zS (i:=Try.t3) Try.underlying3 Try.type3 rfl rfl rfl rfl rfl rfl (by kernel_rfl) (by decide) (by decide) (by decide) rfl (fun h=>by cases h)
theorem T3_sz:T3.sz=1:=rfl
theorem zUB:T3.pty=.int .i64:=rfl
noncomputable def T4:TI:=⟨false,[.bool],0,[],1,.bool,false⟩
theorem T4_ok:yt Try.prog 4 T4:=zS (i:=Try.t4) Try.underlying4 Try.type4 rfl rfl rfl rfl rfl rfl (by kernel_rfl) (by decide) (by decide) (by decide) rfl (fun h=>by cases h)
theorem T4_sz:T4.sz=1:=rfl
theorem zT4:T4.pty=.bool:=rfl
noncomputable def T5:TI:=⟨false,[.int .u8],0,[],1,.int .u8,false⟩
theorem T5_ok:yt Try.prog 5 T5:=zS (i:=Try.t5) Try.underlying5 Try.type5 rfl rfl rfl rfl rfl rfl (by kernel_rfl) (by decide) (by decide) (by decide) rfl (fun h=>by cases h)
theorem T5_sz:T5.sz=1:=rfl
theorem zTp:T5.pty=.int .u8:=rfl
noncomputable def T6:TI:=⟨false,[.int .u8],0,[],1,.int .u8,false⟩
theorem T6_ok:yt Try.prog 6 T6:=zS (i:=Try.t6) Try.underlying6 Try.type6 rfl rfl rfl rfl rfl rfl (by kernel_rfl) (by decide) (by decide) (by decide) rfl (fun h=>by cases h)
theorem T6_sz:T6.sz=1:=rfl
theorem zTm:T6.pty=.int .u8:=rfl
noncomputable def T7:TI:=⟨true,[.int .i64,.int .i64,.bool,.int .u8],0,[(0,2),(1,3),(2,4),(3,6)],24,.struct (match Try.t7.desc with | .struct fs=>fs | _=>#[]),true⟩
theorem T7_ok:yt Try.prog 7 T7:=zS (i:=Try.t7) Try.underlying7 Try.type7 rfl rfl rfl rfl rfl rfl (by kernel_rfl) (by decide) (by decide) (by decide) rfl (fun _=>⟨Try.stoodInHeld7,Try.eqGuardType7⟩)
theorem T7_sz:T7.sz=4:=rfl
theorem zTl:T7.pty=.agg [.int .i64,.int .i64,.bool,.int .u8]:=rfl
noncomputable def T8:TI:=⟨true,[.int .i64,.int .i64,.bool,.int .u8],0,[(0,2),(1,3),(2,4),(3,6)],24,.struct (match Try.t7.desc with | .struct fs=>fs | _=>#[]),true⟩
theorem T8_ok:yt Try.prog 8 T8:=zS (i:=Try.t8) Try.underlying8 Try.type8 rfl rfl rfl rfl rfl rfl (by kernel_rfl) (by decide) (by decide) (by decide) rfl (fun _=>⟨Try.stoodInHeld8,Try.eqGuardType8⟩)
theorem T8_sz:T8.sz=4:=rfl
theorem zTc:T8.pty=.agg [.int .i64,.int .i64,.bool,.int .u8]:=rfl
noncomputable def T9:TI:=⟨false,[.str],0,[],16,.string,false⟩
theorem T9_ok:yt Try.prog 9 T9:=zS (i:=Try.t9) Try.underlying9 Try.type9 rfl rfl rfl rfl rfl rfl (by kernel_rfl) (by decide) (by decide) (by decide) rfl (fun h=>by cases h)
theorem T9_sz:T9.sz=1:=rfl
theorem zTT:T9.pty=.str:=rfl
noncomputable def T10:TI:=⟨false,[.str],0,[],16,.string,false⟩
theorem zUi:yt Try.prog 10 T10:=zS (i:=Try.t10) Try.underlying10 Try.type10 rfl rfl rfl rfl rfl rfl (by kernel_rfl) (by decide) (by decide) (by decide) rfl (fun h=>by cases h)
theorem zUh:T10.sz=1:=rfl
theorem zRr:T10.pty=.str:=rfl
noncomputable def T11:TI:=⟨false,[.str],0,[],16,.string,false⟩
theorem zUg:yt Try.prog 11 T11:=zS (i:=Try.t11) Try.underlying11 Try.type11 rfl rfl rfl rfl rfl rfl (by kernel_rfl) (by decide) (by decide) (by decide) rfl (fun h=>by cases h)
theorem zUf:T11.sz=1:=rfl
theorem zRi:T11.pty=.str:=rfl
noncomputable def T12:TI:=⟨false,[.int .u64],0,[],8,.int .u64,false⟩
theorem zUe:yt Try.prog 12 T12:=zS (i:=Try.t12) Try.underlying12 Try.type12 rfl rfl rfl rfl rfl rfl (by kernel_rfl) (by decide) (by decide) (by decide) rfl (fun h=>by cases h)
theorem zUd:T12.sz=1:=rfl
theorem zRd:T12.pty=.int .u64:=rfl
noncomputable def T13:TI:=⟨true,[.str,.int .u64],0,[(0,9),(1,12)],24,.struct (match Try.t13.desc with | .struct fs=>fs | _=>#[]),false⟩
theorem zUc:yt Try.prog 13 T13:=zS (i:=Try.t13) Try.underlying13 Try.type13 rfl rfl rfl rfl rfl rfl (by kernel_rfl) (by decide) (by decide) (by decide) rfl (fun h=>by cases h)
theorem zUb:T13.sz=2:=rfl
theorem zRS:T13.pty=.agg [.str,.int .u64]:=rfl
noncomputable def T14:TI:=⟨true,[.str,.int .u64],0,[(0,9),(1,12)],24,.struct (match Try.t13.desc with | .struct fs=>fs | _=>#[]),false⟩
theorem zUa:yt Try.prog 14 T14:=zS (i:=Try.t14) Try.underlying14 Try.type14 rfl rfl rfl rfl rfl rfl (by kernel_rfl) (by decide) (by decide) (by decide) rfl (fun h=>by cases h)
theorem zUZ:T14.sz=2:=rfl
theorem zRR:T14.pty=.agg [.str,.int .u64]:=rfl
noncomputable def T15:TI:=⟨false,[.opq],0,[],8,.pointer 128,false⟩
theorem zUY:yt Try.prog 15 T15:=zS (i:=Try.t15) Try.underlying15 Try.type15 rfl rfl rfl rfl rfl rfl (by kernel_rfl) (by decide) (by decide) (by decide) rfl (fun h=>by cases h)
theorem zUX:T15.sz=1:=rfl
theorem zRQ:T15.pty=.opq:=rfl
noncomputable def T16:TI:=⟨false,[.opq],0,[],8,.pointer 131,false⟩
theorem zUW:yt Try.prog 16 T16:=zS (i:=Try.t16) Try.underlying16 Try.type16 rfl rfl rfl rfl rfl rfl (by kernel_rfl) (by decide) (by decide) (by decide) rfl (fun h=>by cases h)
theorem zUV:T16.sz=1:=rfl
theorem zRP:T16.pty=.opq:=rfl
noncomputable def T17:TI:=⟨false,[.opq],0,[],8,.pointer 139,false⟩
theorem zUU:yt Try.prog 17 T17:=zS (i:=Try.t17) Try.underlying17 Try.type17 rfl rfl rfl rfl rfl rfl (by kernel_rfl) (by decide) (by decide) (by decide) rfl (fun h=>by cases h)
theorem zUT:T17.sz=1:=rfl
theorem zRO:T17.pty=.opq:=rfl
noncomputable def T18:TI:=⟨true,[.opq],0,[(0,17)],8,.struct (match Try.t18.desc with | .struct fs=>fs | _=>#[]),false⟩
theorem zUS:yt Try.prog 18 T18:=zS (i:=Try.t18) Try.underlying18 Try.type18 rfl rfl rfl rfl rfl rfl (by kernel_rfl) (by decide) (by decide) (by decide) rfl (fun h=>by cases h)
theorem zUR:T18.sz=1:=rfl
theorem zRN:T18.pty=.agg [.opq]:=rfl
noncomputable def T19:TI:=⟨true,[.opq],0,[(0,17)],8,.struct (match Try.t18.desc with | .struct fs=>fs | _=>#[]),false⟩
theorem zUQ:yt Try.prog 19 T19:=zS (i:=Try.t19) Try.underlying19 Try.type19 rfl rfl rfl rfl rfl rfl (by kernel_rfl) (by decide) (by decide) (by decide) rfl (fun h=>by cases h)
theorem zUP:T19.sz=1:=rfl
theorem zRM:T19.pty=.agg [.opq]:=rfl
noncomputable def T21:TI:=⟨false,[.int .i32],0,[],4,.int .i32,false⟩
theorem zUO:yt Try.prog 21 T21:=zS (i:=Try.t21) Try.underlying21 Try.type21 rfl rfl rfl rfl rfl rfl (by kernel_rfl) (by decide) (by decide) (by decide) rfl (fun h=>by cases h)
theorem zUN:T21.sz=1:=rfl
theorem zRL:T21.pty=.int .i32:=rfl
noncomputable def T22:TI:=⟨false,[.list (.int .u8)],5,[],24,.slice 5,false⟩
theorem zUM:yt Try.prog 22 T22:=zS (i:=Try.t22) Try.underlying22 Try.type22 rfl rfl rfl rfl rfl rfl (by kernel_rfl) (by decide) (by decide) (by decide) rfl (fun h=>by cases h)
theorem zUL:T22.sz=1:=rfl
theorem zRK:T22.pty=.list (.int .u8):=rfl
noncomputable def T24:TI:=⟨false,[.list (.agg [.int .i64,.str])],45,[],24,.slice 45,false⟩
theorem zUK:yt Try.prog 24 T24:=zS (i:=Try.t24) Try.underlying24 Try.type24 rfl rfl rfl rfl rfl rfl (by kernel_rfl) (by decide) (by decide) (by decide) rfl (fun h=>by cases h)
theorem zUJ:T24.sz=1:=rfl
theorem zRJ:T24.pty=.list (.agg [.int .i64,.str]):=rfl
noncomputable def T25:TI:=⟨true,[.int .i64,.int .i64,.bool,.int .i64,.int .i64,.list (.agg [.int .i64,.str])],0,[(0,3),(1,3),(2,4),(3,3),(4,3),(5,24)],64,.struct (match Try.t25.desc with | .struct fs=>fs | _=>#[]),false⟩
theorem zUI:yt Try.prog 25 T25:=zS (i:=Try.t25) Try.underlying25 Try.type25 rfl rfl rfl rfl rfl rfl (by kernel_rfl) (by decide) (by decide) (by decide) rfl (fun h=>by cases h)
theorem zUH:T25.sz=6:=rfl
theorem zRI:T25.pty=.agg [.int .i64,.int .i64,.bool,.int .i64,.int .i64,.list (.agg [.int .i64,.str])]:=rfl
noncomputable def T26:TI:=⟨true,[.int .i64,.int .i64,.bool,.int .i64,.int .i64,.list (.agg [.int .i64,.str])],0,[(0,3),(1,3),(2,4),(3,3),(4,3),(5,24)],64,.struct (match Try.t25.desc with | .struct fs=>fs | _=>#[]),false⟩
theorem zUG:yt Try.prog 26 T26:=zS (i:=Try.t26) Try.underlying26 Try.type26 rfl rfl rfl rfl rfl rfl (by kernel_rfl) (by decide) (by decide) (by decide) rfl (fun h=>by cases h)
theorem zUF:T26.sz=6:=rfl
theorem zRH:T26.pty=.agg [.int .i64,.int .i64,.bool,.int .i64,.int .i64,.list (.agg [.int .i64,.str])]:=rfl
noncomputable def T29:TI:=⟨false,[.list (.str)],9,[],24,.slice 9,false⟩
theorem zUE:yt Try.prog 29 T29:=zS (i:=Try.t29) Try.underlying29 Try.type29 rfl rfl rfl rfl rfl rfl (by kernel_rfl) (by decide) (by decide) (by decide) rfl (fun h=>by cases h)
theorem zUD:T29.sz=1:=rfl
theorem zRG:T29.pty=.list (.str):=rfl
noncomputable def T41:TI:=⟨false,[.opq],0,[],8,.pointer 53,false⟩
theorem zUA:yt Try.prog 41 T41:=zS (i:=Try.t41) Try.underlying41 Try.type41 rfl rfl rfl rfl rfl rfl (by kernel_rfl) (by decide) (by decide) (by decide) rfl (fun h=>by cases h)
theorem zT9:T41.sz=1:=rfl
theorem zRF:T41.pty=.opq:=rfl
noncomputable def T44:TI:=⟨true,[.int .i64,.str],0,[(0,3),(1,9)],24,.struct (match Try.t44.desc with | .struct fs=>fs | _=>#[]),true⟩
theorem zT8:yt Try.prog 44 T44:=zS (i:=Try.t44) Try.underlying44 Try.type44 rfl rfl rfl rfl rfl rfl (by kernel_rfl) (by decide) (by decide) (by decide) rfl (fun _=>⟨Try.stoodInHeld44,Try.eqGuardType44⟩)
theorem zT7:T44.sz=2:=rfl
theorem zRE:T44.pty=.agg [.int .i64,.str]:=rfl
noncomputable def T45:TI:=⟨true,[.int .i64,.str],0,[(0,3),(1,9)],24,.struct (match Try.t44.desc with | .struct fs=>fs | _=>#[]),true⟩
theorem zT6:yt Try.prog 45 T45:=zS (i:=Try.t45) Try.underlying45 Try.type45 rfl rfl rfl rfl rfl rfl (by kernel_rfl) (by decide) (by decide) (by decide) rfl (fun _=>⟨Try.stoodInHeld45,Try.eqGuardType45⟩)
theorem zT5:T45.sz=2:=rfl
theorem zRD:T45.pty=.agg [.int .i64,.str]:=rfl
noncomputable def T52:TI:=⟨true,[.list (.int .u8),.int .i64,.int .i64],0,[(0,22),(1,3),(2,3)],40,.struct (match Try.t52.desc with | .struct fs=>fs | _=>#[]),false⟩
theorem zT3:yt Try.prog 52 T52:=zS (i:=Try.t52) Try.underlying52 Try.type52 rfl rfl rfl rfl rfl rfl (by kernel_rfl) (by decide) (by decide) (by decide) rfl (fun h=>by cases h)
theorem zT2:T52.sz=3:=rfl
theorem zRC:T52.pty=.agg [.list (.int .u8),.int .i64,.int .i64]:=rfl
noncomputable def T53:TI:=⟨true,[.list (.int .u8),.int .i64,.int .i64],0,[(0,22),(1,3),(2,3)],40,.struct (match Try.t52.desc with | .struct fs=>fs | _=>#[]),false⟩
theorem zT1:yt Try.prog 53 T53:=zS (i:=Try.t53) Try.underlying53 Try.type53 rfl rfl rfl rfl rfl rfl (by kernel_rfl) (by decide) (by decide) (by decide) rfl (fun h=>by cases h)
theorem zT0:T53.sz=3:=rfl
theorem zRB:T53.pty=.agg [.list (.int .u8),.int .i64,.int .i64]:=rfl
noncomputable def T54:TI:=⟨false,[.list (.agg [.int .i64,.int .i64])],83,[],24,.slice 83,false⟩
theorem zTz:yt Try.prog 54 T54:=zS (i:=Try.t54) Try.underlying54 Try.type54 rfl rfl rfl rfl rfl rfl (by kernel_rfl) (by decide) (by decide) (by decide) rfl (fun h=>by cases h)
theorem zTy:T54.sz=1:=rfl
theorem zRA:T54.pty=.list (.agg [.int .i64,.int .i64]):=rfl
noncomputable def T55:TI:=⟨true,[.int .i64,.int .i64,.int .i64,.int .i64,.int .i64,.int .i64,.int .i64,.int .i64,.int .i64,.str,.list (.agg [.int .i64,.int .i64]),.list (.str)],0,[(0,3),(1,3),(2,3),(3,3),(4,3),(5,3),(6,3),(7,3),(8,3),(9,9),(10,54),(11,29)],136,.struct (match Try.t55.desc with | .struct fs=>fs | _=>#[]),false⟩
theorem zTx:yt Try.prog 55 T55:=zS (i:=Try.t55) Try.underlying55 Try.type55 rfl rfl rfl rfl rfl rfl (by kernel_rfl) (by decide) (by decide) (by decide) rfl (fun h=>by cases h)
theorem zTw:T55.sz=12:=rfl
theorem zQ9:T55.pty=.agg [.int .i64,.int .i64,.int .i64,.int .i64,.int .i64,.int .i64,.int .i64,.int .i64,.int .i64,.str,.list (.agg [.int .i64,.int .i64]),.list (.str)]:=rfl
noncomputable def T56:TI:=⟨true,[.int .i64,.int .i64,.int .i64,.int .i64,.int .i64,.int .i64,.int .i64,.int .i64,.int .i64,.str,.list (.agg [.int .i64,.int .i64]),.list (.str)],0,[(0,3),(1,3),(2,3),(3,3),(4,3),(5,3),(6,3),(7,3),(8,3),(9,9),(10,54),(11,29)],136,.struct (match Try.t55.desc with | .struct fs=>fs | _=>#[]),false⟩
theorem zTv:yt Try.prog 56 T56:=zS (i:=Try.t56) Try.underlying56 Try.type56 rfl rfl rfl rfl rfl rfl (by kernel_rfl) (by decide) (by decide) (by decide) rfl (fun h=>by cases h)
theorem zTu:T56.sz=12:=rfl
theorem zQ8:T56.pty=.agg [.int .i64,.int .i64,.int .i64,.int .i64,.int .i64,.int .i64,.int .i64,.int .i64,.int .i64,.str,.list (.agg [.int .i64,.int .i64]),.list (.str)]:=rfl
noncomputable def T58:TI:=⟨false,[.list (.int .i64)],3,[],24,.slice 3,false⟩
theorem zTt:yt Try.prog 58 T58:=zS (i:=Try.t58) Try.underlying58 Try.type58 rfl rfl rfl rfl rfl rfl (by kernel_rfl) (by decide) (by decide) (by decide) rfl (fun h=>by cases h)
theorem zTs:T58.sz=1:=rfl
theorem zQ7:T58.pty=.list (.int .i64):=rfl
noncomputable def T59:TI:=⟨true,[.int .i64,.list (.int .i64),.bool,.str,.str],0,[(0,3),(1,58),(2,4),(3,9),(4,9)],72,.struct (match Try.t59.desc with | .struct fs=>fs | _=>#[]),false⟩
theorem zTr:yt Try.prog 59 T59:=zS (i:=Try.t59) Try.underlying59 Try.type59 rfl rfl rfl rfl rfl rfl (by kernel_rfl) (by decide) (by decide) (by decide) rfl (fun h=>by cases h)
theorem zTq:T59.sz=5:=rfl
theorem zQ6:T59.pty=.agg [.int .i64,.list (.int .i64),.bool,.str,.str]:=rfl
noncomputable def T60:TI:=⟨true,[.int .i64,.list (.int .i64),.bool,.str,.str],0,[(0,3),(1,58),(2,4),(3,9),(4,9)],72,.struct (match Try.t59.desc with | .struct fs=>fs | _=>#[]),false⟩
theorem zTo:yt Try.prog 60 T60:=zS (i:=Try.t60) Try.underlying60 Try.type60 rfl rfl rfl rfl rfl rfl (by kernel_rfl) (by decide) (by decide) (by decide) rfl (fun h=>by cases h)
theorem zTn:T60.sz=5:=rfl
theorem zQ5:T60.pty=.agg [.int .i64,.list (.int .i64),.bool,.str,.str]:=rfl
noncomputable def T82:TI:=⟨true,[.int .i64,.int .i64],0,[(0,3),(1,3)],16,.struct (match Try.t82.desc with | .struct fs=>fs | _=>#[]),true⟩
theorem zTk:yt Try.prog 82 T82:=zS (i:=Try.t82) Try.underlying82 Try.type82 rfl rfl rfl rfl rfl rfl (by kernel_rfl) (by decide) (by decide) (by decide) rfl (fun _=>⟨Try.stoodInHeld82,Try.eqGuardType82⟩)
theorem zTj:T82.sz=2:=rfl
theorem zQ4:T82.pty=.agg [.int .i64,.int .i64]:=rfl
noncomputable def T83:TI:=⟨true,[.int .i64,.int .i64],0,[(0,3),(1,3)],16,.struct (match Try.t82.desc with | .struct fs=>fs | _=>#[]),true⟩
theorem zTi:yt Try.prog 83 T83:=zS (i:=Try.t83) Try.underlying83 Try.type83 rfl rfl rfl rfl rfl rfl (by kernel_rfl) (by decide) (by decide) (by decide) rfl (fun _=>⟨Try.stoodInHeld83,Try.eqGuardType83⟩)
theorem zTh:T83.sz=2:=rfl
theorem zQ3:T83.pty=.agg [.int .i64,.int .i64]:=rfl
noncomputable def T85:TI:=⟨false,[.list (.agg [.int .i64,.int .i64,.bool,.list (.int .i64),.str])],94,[],24,.slice 94,false⟩
theorem zTg:yt Try.prog 85 T85:=zS (i:=Try.t85) Try.underlying85 Try.type85 rfl rfl rfl rfl rfl rfl (by kernel_rfl) (by decide) (by decide) (by decide) rfl (fun h=>by cases h)
theorem zTf:T85.sz=1:=rfl
theorem zQ2:T85.pty=.list (.agg [.int .i64,.int .i64,.bool,.list (.int .i64),.str]):=rfl
noncomputable def T88:TI:=⟨false,[.opq],0,[],8,.pointer 91,false⟩
theorem zTe:yt Try.prog 88 T88:=zS (i:=Try.t88) Try.underlying88 Try.type88 rfl rfl rfl rfl rfl rfl (by kernel_rfl) (by decide) (by decide) (by decide) rfl (fun h=>by cases h)
theorem zTd:T88.sz=1:=rfl
theorem zQ1:T88.pty=.opq:=rfl
noncomputable def T90:TI:=⟨true,[.int .i64,.int .i64,.int .i64,.int .i64,.int .i64,.int .i64,.int .i64,.int .i64,.int .i64,.str,.list (.agg [.int .i64,.int .i64]),.list (.str)],0,[(0,56)],136,.struct (match Try.t90.desc with | .struct fs=>fs | _=>#[]),false⟩
theorem zTb:yt Try.prog 90 T90:=zS (i:=Try.t90) Try.underlying90 Try.type90 rfl rfl rfl rfl rfl rfl (by kernel_rfl) (by decide) (by decide) (by decide) rfl (fun h=>by cases h)
theorem zTa:T90.sz=12:=rfl
theorem zQ0:T90.pty=.agg [.int .i64,.int .i64,.int .i64,.int .i64,.int .i64,.int .i64,.int .i64,.int .i64,.int .i64,.str,.list (.agg [.int .i64,.int .i64]),.list (.str)]:=rfl
noncomputable def T91:TI:=⟨true,[.int .i64,.int .i64,.int .i64,.int .i64,.int .i64,.int .i64,.int .i64,.int .i64,.int .i64,.str,.list (.agg [.int .i64,.int .i64]),.list (.str)],0,[(0,56)],136,.struct (match Try.t90.desc with | .struct fs=>fs | _=>#[]),false⟩
theorem zTZ:yt Try.prog 91 T91:=zS (i:=Try.t91) Try.underlying91 Try.type91 rfl rfl rfl rfl rfl rfl (by kernel_rfl) (by decide) (by decide) (by decide) rfl (fun h=>by cases h)
theorem zTY:T91.sz=12:=rfl
theorem zQz:T91.pty=.agg [.int .i64,.int .i64,.int .i64,.int .i64,.int .i64,.int .i64,.int .i64,.int .i64,.int .i64,.str,.list (.agg [.int .i64,.int .i64]),.list (.str)]:=rfl
noncomputable def T93:TI:=⟨true,[.int .i64,.int .i64,.bool,.list (.int .i64),.str],0,[(0,3),(1,3),(2,4),(3,58),(4,9)],64,.struct (match Try.t93.desc with | .struct fs=>fs | _=>#[]),false⟩
theorem zTX:yt Try.prog 93 T93:=zS (i:=Try.t93) Try.underlying93 Try.type93 rfl rfl rfl rfl rfl rfl (by kernel_rfl) (by decide) (by decide) (by decide) rfl (fun h=>by cases h)
theorem zTW:T93.sz=5:=rfl
theorem zQy:T93.pty=.agg [.int .i64,.int .i64,.bool,.list (.int .i64),.str]:=rfl
noncomputable def T94:TI:=⟨true,[.int .i64,.int .i64,.bool,.list (.int .i64),.str],0,[(0,3),(1,3),(2,4),(3,58),(4,9)],64,.struct (match Try.t93.desc with | .struct fs=>fs | _=>#[]),false⟩
theorem zTV:yt Try.prog 94 T94:=zS (i:=Try.t94) Try.underlying94 Try.type94 rfl rfl rfl rfl rfl rfl (by kernel_rfl) (by decide) (by decide) (by decide) rfl (fun h=>by cases h)
theorem zTU:T94.sz=5:=rfl
theorem zQx:T94.pty=.agg [.int .i64,.int .i64,.bool,.list (.int .i64),.str]:=rfl
noncomputable def zSL:TI:=⟨false,[.int .u64],0,[],8,.int .u64,false⟩
theorem zRv:yt Try.prog 104 zSL:=zS (i:=Try.t104) Try.underlying104 Try.type104 rfl rfl rfl rfl rfl rfl (by kernel_rfl) (by decide) (by decide) (by decide) rfl (fun h=>by cases h)
theorem zRu:zSL.sz=1:=rfl
theorem zPD:zSL.pty=.int .u64:=rfl
noncomputable def zSK:TI:=⟨false,[.opq],0,[],8,.pointer 112,false⟩
theorem zRt:yt Try.prog 109 zSK:=zS (i:=Try.t109) Try.underlying109 Try.type109 rfl rfl rfl rfl rfl rfl (by kernel_rfl) (by decide) (by decide) (by decide) rfl (fun h=>by cases h)
theorem zRs:zSK.sz=1:=rfl
theorem zPC:zSK.pty=.opq:=rfl
noncomputable def zSJ:TI:=⟨true,[.int .i64,.list (.int .i64),.bool,.str,.str,.list (.agg [.int .i64,.int .i64,.bool,.list (.int .i64),.str])],0,[(0,60),(5,85)],96,.struct (match Try.t111.desc with | .struct fs=>fs | _=>#[]),false⟩
theorem zRq:yt Try.prog 111 zSJ:=zS (i:=Try.t111) Try.underlying111 Try.type111 rfl rfl rfl rfl rfl rfl (by kernel_rfl) (by decide) (by decide) (by decide) rfl (fun h=>by cases h)
theorem zRp:zSJ.sz=6:=rfl
theorem zPB:zSJ.pty=.agg [.int .i64,.list (.int .i64),.bool,.str,.str,.list (.agg [.int .i64,.int .i64,.bool,.list (.int .i64),.str])]:=rfl
noncomputable def zSI:TI:=⟨true,[.int .i64,.list (.int .i64),.bool,.str,.str,.list (.agg [.int .i64,.int .i64,.bool,.list (.int .i64),.str])],0,[(0,60),(5,85)],96,.struct (match Try.t111.desc with | .struct fs=>fs | _=>#[]),false⟩
theorem zRo:yt Try.prog 112 zSI:=zS (i:=Try.t112) Try.underlying112 Try.type112 rfl rfl rfl rfl rfl rfl (by kernel_rfl) (by decide) (by decide) (by decide) rfl (fun h=>by cases h)
theorem zRn:zSI.sz=6:=rfl
theorem zPA:zSI.pty=.agg [.int .i64,.list (.int .i64),.bool,.str,.str,.list (.agg [.int .i64,.int .i64,.bool,.list (.int .i64),.str])]:=rfl
noncomputable def zSH:TI:=⟨false,[.opq],0,[],8,.pointer 5,false⟩
theorem zRm:yt Try.prog 115 zSH:=zS (i:=Try.t115) Try.underlying115 Try.type115 rfl rfl rfl rfl rfl rfl (by kernel_rfl) (by decide) (by decide) (by decide) rfl (fun h=>by cases h)
theorem zRl:zSH.sz=1:=rfl
theorem zO9:zSH.pty=.opq:=rfl
noncomputable def zSG:TI:=⟨false,[.opq],0,[],8,.pointer 56,false⟩
theorem zRk:yt Try.prog 119 zSG:=zS (i:=Try.t119) Try.underlying119 Try.type119 rfl rfl rfl rfl rfl rfl (by kernel_rfl) (by decide) (by decide) (by decide) rfl (fun h=>by cases h)
theorem zRj:zSG.sz=1:=rfl
theorem zO8:zSG.pty=.opq:=rfl
noncomputable def zSF:TI:=⟨true,[.opq,.opq,.opq,.str],0,[(0,17),(1,17),(2,17),(3,9)],40,.struct (match Try.t127.desc with | .struct fs=>fs | _=>#[]),false⟩
theorem zRh:yt Try.prog 127 zSF:=zS (i:=Try.t127) Try.underlying127 Try.type127 rfl rfl rfl rfl rfl rfl (by kernel_rfl) (by decide) (by decide) (by decide) rfl (fun h=>by cases h)
theorem zRg:zSF.sz=4:=rfl
theorem zO7:zSF.pty=.agg [.opq,.opq,.opq,.str]:=rfl
noncomputable def zSE:TI:=⟨true,[.opq,.opq,.opq,.str],0,[(0,17),(1,17),(2,17),(3,9)],40,.struct (match Try.t127.desc with | .struct fs=>fs | _=>#[]),false⟩
theorem zRf:yt Try.prog 128 zSE:=zS (i:=Try.t128) Try.underlying128 Try.type128 rfl rfl rfl rfl rfl rfl (by kernel_rfl) (by decide) (by decide) (by decide) rfl (fun h=>by cases h)
theorem zRe:zSE.sz=4:=rfl
theorem zO6:zSE.pty=.agg [.opq,.opq,.opq,.str]:=rfl
noncomputable def zSD:TI:=⟨false,[.int .u32],0,[],4,.int .u32,false⟩
theorem zRc:yt Try.prog 132 zSD:=zS (i:=Try.t132) Try.underlying132 Try.type132 rfl rfl rfl rfl rfl rfl (by kernel_rfl) (by decide) (by decide) (by decide) rfl (fun h=>by cases h)
theorem zRb:zSD.sz=1:=rfl
theorem zO5:zSD.pty=.int .u32:=rfl
noncomputable def zSC:TI:=⟨false,[.int .u8],0,[],1,.int .u8,false⟩
theorem zRa:yt Try.prog 133 zSC:=zS (i:=Try.t133) Try.underlying133 Try.type133 rfl rfl rfl rfl rfl rfl (by kernel_rfl) (by decide) (by decide) (by decide) rfl (fun h=>by cases h)
theorem zRZ:zSC.sz=1:=rfl
theorem zO4:zSC.pty=.int .u8:=rfl
noncomputable def zSB:TI:=⟨false,[.int .u8],0,[],1,.int .u8,false⟩
theorem zRY:yt Try.prog 134 zSB:=zS (i:=Try.t134) Try.underlying134 Try.type134 rfl rfl rfl rfl rfl rfl (by kernel_rfl) (by decide) (by decide) (by decide) rfl (fun h=>by cases h)
theorem zRX:zSB.sz=1:=rfl
theorem zO3:zSB.pty=.int .u8:=rfl
noncomputable def zSA:TI:=⟨false,[.int .i32],0,[],4,.int .i32,false⟩
theorem zRW:yt Try.prog 136 zSA:=zS (i:=Try.t136) Try.underlying136 Try.type136 rfl rfl rfl rfl rfl rfl (by kernel_rfl) (by decide) (by decide) (by decide) rfl (fun h=>by cases h)
theorem zRV:zSA.sz=1:=rfl
theorem zO2:zSA.pty=.int .i32:=rfl
noncomputable def zR9:TI:=⟨false,[.int .i32],0,[],4,.int .i32,false⟩
theorem zRU:yt Try.prog 137 zR9:=zS (i:=Try.t137) Try.underlying137 Try.type137 rfl rfl rfl rfl rfl rfl (by kernel_rfl) (by decide) (by decide) (by decide) rfl (fun h=>by cases h)
theorem zRT:zR9.sz=1:=rfl
theorem zO1:zR9.pty=.int .i32:=rfl
noncomputable def zx:List (Nat × TI):=[(2,T2),(3,T3),(4,T4),(5,T5),(6,T6),(7,T7),(8,T8),(9,T9),(10,T10),(11,T11),(12,T12),(13,T13),(14,T14),(15,T15),(16,T16),(17,T17),(18,T18),(19,T19),(21,T21),(22,T22),(24,T24),(25,T25),(26,T26),(29,T29),(41,T41),(44,T44),(45,T45),(52,T52),(53,T53),(54,T54),(55,T55),(56,T56),(58,T58),(59,T59),(60,T60),(82,T82),(83,T83),(85,T85),(88,T88),(90,T90),(91,T91),(93,T93),(94,T94),(104,zSL),(109,zSK),(111,zSJ),(112,zSI),(115,zSH),(119,zSG),(127,zSF),(128,zSE),(132,zSD),(133,zSC),(134,zSB),(136,zSA),(137,zR9)]
theorem ty2:lk zx 2=some T2:=rfl
theorem ty3:lk zx 3=some T3:=rfl
theorem ty4:lk zx 4=some T4:=rfl
theorem ty5:lk zx 5=some T5:=rfl
theorem ty6:lk zx 6=some T6:=rfl
theorem ty7:lk zx 7=some T7:=rfl
theorem ty8:lk zx 8=some T8:=rfl
theorem ty9:lk zx 9=some T9:=rfl
theorem ty10:lk zx 10=some T10:=rfl
theorem ty11:lk zx 11=some T11:=rfl
theorem ty12:lk zx 12=some T12:=rfl
theorem ty13:lk zx 13=some T13:=rfl
theorem ty14:lk zx 14=some T14:=rfl
theorem ty15:lk zx 15=some T15:=rfl
theorem ty16:lk zx 16=some T16:=rfl
theorem ty17:lk zx 17=some T17:=rfl
theorem ty18:lk zx 18=some T18:=rfl
theorem ty19:lk zx 19=some T19:=rfl
theorem ty21:lk zx 21=some T21:=rfl
theorem ty22:lk zx 22=some T22:=rfl
theorem ty24:lk zx 24=some T24:=rfl
theorem ty25:lk zx 25=some T25:=rfl
theorem ty26:lk zx 26=some T26:=rfl
theorem ty29:lk zx 29=some T29:=rfl
theorem ty41:lk zx 41=some T41:=rfl
theorem ty44:lk zx 44=some T44:=rfl
theorem ty45:lk zx 45=some T45:=rfl
theorem ty52:lk zx 52=some T52:=rfl
theorem ty53:lk zx 53=some T53:=rfl
theorem ty54:lk zx 54=some T54:=rfl
theorem ty55:lk zx 55=some T55:=rfl
theorem ty56:lk zx 56=some T56:=rfl
theorem ty58:lk zx 58=some T58:=rfl
theorem ty59:lk zx 59=some T59:=rfl
theorem ty60:lk zx 60=some T60:=rfl
theorem ty82:lk zx 82=some T82:=rfl
theorem ty83:lk zx 83=some T83:=rfl
theorem ty85:lk zx 85=some T85:=rfl
theorem ty88:lk zx 88=some T88:=rfl
theorem ty90:lk zx 90=some T90:=rfl
theorem ty91:lk zx 91=some T91:=rfl
theorem ty93:lk zx 93=some T93:=rfl
theorem ty94:lk zx 94=some T94:=rfl
theorem ty104:lk zx 104=some zSL:=rfl
theorem ty109:lk zx 109=some zSK:=rfl
theorem ty111:lk zx 111=some zSJ:=rfl
theorem ty112:lk zx 112=some zSI:=rfl
theorem ty115:lk zx 115=some zSH:=rfl
theorem ty119:lk zx 119=some zSG:=rfl
theorem ty127:lk zx 127=some zSF:=rfl
theorem ty128:lk zx 128=some zSE:=rfl
theorem ty132:lk zx 132=some zSD:=rfl
theorem ty133:lk zx 133=some zSC:=rfl
theorem ty134:lk zx 134=some zSB:=rfl
theorem ty136:lk zx 136=some zSA:=rfl
theorem ty137:lk zx 137=some zR9:=rfl
theorem zD(fns:List ((Nat × List Nat) × zP)):zAd Try.prog ⟨zx,fns⟩:=by
 have key:∀l:List (Nat × TI),(∀p∈l,yt Try.prog p.1 p.2)→∀t ti,lk l t=some ti→yt Try.prog t ti:=by
  intro l
  induction l with
  | nil=>intro _ t ti h;cases h
  | cons p l ih=>
   intro hl t ti h
   obtain⟨i,x⟩:=p
   simp only[lk] at h
   split at h
   ·rename_i e;subst e;cases h;exact hl (i,ti) (by simp)
   ·exact ih (fun p hp=>hl p (by simp[hp])) t ti h
 refine key zx ?_
 simp only[zx,List.mem_cons,List.not_mem_nil,or_false,forall_eq_or_imp,forall_eq]
 exact⟨T2_ok,T3_ok,T4_ok,T5_ok,T6_ok,T7_ok,T8_ok,T9_ok,zUi,zUg,zUe,zUc,zUa,zUY,zUW,zUU,zUS,zUQ,zUO,zUM,zUK,zUI,zUG,zUE,zUA,zT8,zT6,zT3,zT1,zTz,zTx,zTv,zTt,zTr,zTo,zTk,zTi,zTg,zTe,zTb,zTZ,zTX,zTV,zRv,zRt,zRq,zRo,zRm,zRk,zRh,zRf,zRc,zRa,zRY,zRW,zRU⟩
theorem zb:Try.prog.follows .mixedOrders=true:=by kernel_rfl
attribute [simp] zOI zF zK zAS zNj zCt zCk zBp pv_at zSs zQI zSr zQG zSt PTy.leaves PTy.wd inR TI.sz TI.pty lk y8 zAK zLn zOO zL zo zh zFt zJA zAI dpB zAj ndB zGR zR0 zBr zG4 St.slot zEJ zEI zHl St.ev SV.cells SV.ofCells SV.leafB zBO zAr zD5 zBx zBq zFn zDa yc zw yR zF3 zFW zDq zMS zB noP elP z8 zAV zm zJT binI zFQ zLC binS imp evs zEX zDi zZ zAZ zBR z6 zKT zDr zJR zR2 bsHs zB8 zR1 yN zEc zCa zCj zBA zA7 zMA zPZ zGj zIy zNT zD0 zGi zKk zLJ zGc zF8 zH0 zGr zJE zIa zP6 zD8 evO zH9 yr yV zGb zC2 zBU zJZ zBk zEW zSm zMF zKj zH4 zBD zDX zEN zIq zI2 zKz zGf yO zCy eqCs zJW zd zG5 zEe leafB zCM zEH zKY zDy csz ksz zPM zB1 zDe vcK zPK ldLs isLs splG zMB zDk vcD zHZ zET zF4 zA1 zKK rn zFS zFR entR zLk entP zD3 zS1 zR7 entA entL zNs zKJ ent zGO hsV zR5 zC1 yd zJu hsL hsA zOE gcH gcA zKi zM5 zGQ zQQ mr mrs zGP zQR zAa zAW zGU zDh zFF zFE zg nL zHr zOG zF0 zB0 zDo zBt zPP zJP zPO zHg zSj zMQ zOJ zOr zEK zH8 zQU zLj SV.lt SV.lts IntKind.min IntKind.max IntKind.signed IntKind.bits LIM
attribute [simp] ty2 T2_sz zUC T2 ty3 T3_sz zUB T3 ty4 T4_sz zT4 T4 ty5 T5_sz zTp T5 ty6 T6_sz zTm T6 ty7 T7_sz zTl T7 ty8 T8_sz zTc T8 ty9 T9_sz zTT T9 ty10 zUh zRr T10 ty11 zUf zRi T11 ty12 zUd zRd T12 ty13 zUb zRS T13 ty14 zUZ zRR T14 ty15 zUX zRQ T15 ty16 zUV zRP T16 ty17 zUT zRO T17 ty18 zUR zRN T18 ty19 zUP zRM T19 ty21 zUN zRL T21 ty22 zUL zRK T22 ty24 zUJ zRJ T24 ty25 zUH zRI T25 ty26 zUF zRH T26 ty29 zUD zRG T29 ty41 zT9 zRF T41 ty44 zT7 zRE T44 ty45 zT5 zRD T45 ty52 zT2 zRC T52 ty53 zT0 zRB T53 ty54 zTy zRA T54 ty55 zTw zQ9 T55 ty56 zTu zQ8 T56 ty58 zTs zQ7 T58 ty59 zTq zQ6 T59 ty60 zTn zQ5 T60 ty82 zTj zQ4 T82 ty83 zTh zQ3 T83 ty85 zTf zQ2 T85 ty88 zTd zQ1 T88 ty90 zTa zQ0 T90 ty91 zTY zQz T91 ty93 zTW zQy T93 ty94 zTU zQx T94 ty104 zRu zPD zSL ty109 zRs zPC zSK ty111 zRp zPB zSJ ty112 zRn zPA zSI ty115 zRl zO9 zSH ty119 zRj zO8 zSG ty127 zRg zO7 zSF ty128 zRe zO6 zSE ty132 zRb zO5 zSD ty133 zRZ zO4 zSC ty134 zRX zO3 zSB ty136 zRV zO2 zSA ty137 zRT zO1 zR9
end
section
variable [ze]
open Go.Lib Go.RowKit
section
variable {P:Program} {w:World}
theorem zQs(t u ty e:TypeId)(i:TypeInfo)(ht:P.underlying t=some (.slice e))(hu:P.underlying u=some .string)(hi:P.info? e=some i)(hz:i.zero=some (.int .u8 0))(hsize:i.size=1)(hby:i.bytes=1)
  (v:Value) (n:Nat) (xs:List Value) (hown:w.ownsRow 0 e 1 v n xs) (s:ByteArray) (h63:n+s.size≤maxLen) (hbytes:n+s.size≤140737488355328) :
  ∃v' w',(Builtin.append_ #[t,u] ty #[v,.string s]).run P w=.ok v' w'∧w'.ownsRow 0 e 1 v' (n+s.size) (xs++strCells s)∧w.grownBy w' v.ownBlock∧(v'.ownBlock=v.ownBlock∨v'.ownBlock=some w.heap.size):=by
 obtain⟨v',w',hr,h2,h3,h4⟩:=run_append_own_string (P:=P) w 0 t u ty e i ht hu hi hz hsize hby v n xs hown s h63 hbytes (Nat.zero_le _)
 refine⟨v',w',hr,h2,h3,?_⟩
 have hxl:xs.length=n:=by simpa using hown.1
 simp only[maxLen] at h63
 have hown':=hown
 rcases hown.2 with ⟨rfl,rfl⟩ | ⟨g,cap,cur,rfl,_,hg,hnc,hcm,hcs,htake⟩
 ·by_cases hm:s.size=0
  ·rw[h4.2 ⟨rfl,hm⟩];exact .inl rfl
  ·have h5:=run_append_nil_string (P:=P) w t u ty e i (.int .u8 0) ht hu hi hz s (by omega) (by omega) (by rw[hby];omega)
   rw[h5] at hr;cases hr;exact .inr rfl
 ·by_cases hroom:n+s.size≤cap
  ·have h5:=run_append_room_string (P:=P) w t u ty e i ht hu hi hsize g n cap cur hg s hroom (by rw[Nat.mul_one] at hcs;omega)
   rw[h5] at hr;cases hr;exact .inl rfl
  ·have h5:=run_append_grow_string (P:=P) w t u ty e i (.int .u8 0) ht hu hi hz ⟨g,0,none⟩ n cap xs (by rw[hsize];simpa using hxl) (hown'.cells (g:=g) rfl) s (by omega) (by omega) (by rw[hby];exact growslice_fits (by omega) (by omega))
   rw[h5] at hr;cases hr;exact .inr rfl
theorem zQt(t ty e:TypeId)(i:TypeInfo)(ht:P.underlying t=some (.slice e))(hi:P.info? e=some i)(hz:i.zero=some (.int .u8 0))(hsize:i.size=1)(hby:i.bytes=1)
  (v:Value) (n:Nat) (xs:List Value) (hown:w.ownsRow 0 e 1 v n xs) (ad:Addr) (x:Value) (hx:w.cell? ad=some x) (h1:x.oneCell'=true) (hbytes:n+1≤140737488355328) :
  ∃v' w',(Builtin.append_ #[t,t] ty #[v,.slice (some ad) 1 1]).run P w=.ok v' w'∧w'.ownsRow 0 e 1 v' (n+1) (xs++[x])∧w.grownBy w' v.ownBlock∧(v'.ownBlock=v.ownBlock∨v'.ownBlock=some w.heap.size):=by
 have hnews:∀j u,([x]:List Value)[j]?=some u→w.cell? (ad.add j)=some u:=by
  intro j u hj
  match j,hj with
  | 0,hj=>simp at hj;subst hj;simpa[Addr.add] using hx
 have hone:∀u∈([x]:List Value),u.oneCell'=true:=by intro u hu;simp at hu;subst hu;exact h1
 obtain⟨v',w',hr,h2,h3,h4⟩:=run_append_own (P:=P) w 0 t ty e i (.int .u8 0) 1 1 ht hi hz hsize hby rfl (by decide) v n xs hown ad 1 1 [x] rfl hnews hone (by unfold maxLen;omega) (by omega) (Nat.zero_le _)
 refine⟨v',w',hr,h2,h3,?_⟩
 have hxl:xs.length=n:=by simpa using hown.1
 have hown':=hown
 rcases hown.2 with ⟨rfl,rfl⟩ | ⟨g,cap,cur,rfl,_,hg,hnc,hcm,hcs,htake⟩
 ·have h5:=run_append_nil (P:=P) w t ty e i (.int .u8 0) ht hi hz ad 1 1 [x] (by rw[hsize];rfl) hnews (by omega) (by omega) (by rw[hby];omega)
  rw[h5] at hr;cases hr;exact .inr rfl
 ·by_cases hroom:n+1≤cap
  ·have h5:=run_append_room (P:=P) w t ty e i ht hi g n cap cur hg ad 1 1 [x] (by rw[hsize];rfl) hnews hone hroom (by rw[hsize,Nat.mul_one];rw[Nat.mul_one] at hcs;simp;omega)
   rw[h5] at hr;cases hr;exact .inl rfl
  ·have h5:=run_append_grow (P:=P) w t ty e i (.int .u8 0) ht hi hz ⟨g,0,none⟩ n cap xs (by rw[hsize];simpa using hxl) (hown'.cells (g:=g) rfl) ad 1 1 [x] (by rw[hsize];rfl) hnews (by omega) (by omega) (by rw[hby];exact growslice_fits (by omega) (by omega))
   rw[h5] at hr;cases hr;exact .inr rfl
theorem zGp{ops:Array Oper}{rest:List Oper}{o:Oper}{a:Act}{Q:Exit→Act→World→Prop}(hgd:o.guard=none)(sl x:Operand)(t u:TypeId)
  (ho:o.op=.call { callee:=.builtin .append,args:=#[sl,x],argTypes:=#[t,u] })
  (e:TypeId) (i:TypeInfo) (ht:P.underlying t=some (.slice e)) (hu:P.underlying u=some .string) (hi:P.info? e=some i) (hz:i.zero=some (.int .u8 0)) (hsize:i.size=1) (hby:i.bytes=1)
  (v:Value) (n:Nat) (xs:List Value) (hs:a.eval sl=v) (hown:w.ownsRow 0 e 1 v n xs) (s:ByteArray) (hx:a.eval x=.string s) (h63:n+s.size≤maxLen) (hbytes:n+s.size≤140737488355328)
  (h:∀v' w',w'.ownsRow 0 e 1 v' (n+s.size) (xs++strCells s)→w.grownBy w' v.ownBlock→(v'.ownBlock=v.ownBlock∨v'.ownBlock=some w.heap.size)→wpList P ops Q rest (a.put o.dst v') w'):wpList P ops Q (o :: rest) a w:=by
 refine wpList_plain hgd fun K hK=>?_
 obtain⟨v',w',hr,h2,h3,h4⟩:=zQs (P:=P) t u o.type e i ht hu hi hz hsize hby v n xs hown s h63 hbytes
 unfold Oper.wp execOp
 simp only[ho,resolve,invoke,builtin,Sem.run_bind,Sem.run_pure,Result.andThen_ok,List.map_toArray,List.map_cons,List.map_nil,hs,hx,hr]
 exact hK _ _ (h v' w' h2 h3 h4)
theorem zGq{ops:Array Oper}{rest:List Oper}{o:Oper}{a:Act}{Q:Exit→Act→World→Prop}(hgd:o.guard=none)(sl x:Operand)(t:TypeId)
  (ho:o.op=.call { callee:=.builtin .append,args:=#[sl,x],argTypes:=#[t,t] })
  (e:TypeId) (i:TypeInfo) (ht:P.underlying t=some (.slice e)) (hi:P.info? e=some i) (hz:i.zero=some (.int .u8 0)) (hsize:i.size=1) (hby:i.bytes=1)
  (v:Value) (n:Nat) (xs:List Value) (hs:a.eval sl=v) (hown:w.ownsRow 0 e 1 v n xs) (ad:Addr) (y:Value) (hx:a.eval x=.slice (some ad) 1 1) (hy:w.cell? ad=some y) (h1:y.oneCell'=true) (hbytes:n+1≤140737488355328)
  (h:∀v' w',w'.ownsRow 0 e 1 v' (n+1) (xs++[y])→w.grownBy w' v.ownBlock→(v'.ownBlock=v.ownBlock∨v'.ownBlock=some w.heap.size)→wpList P ops Q rest (a.put o.dst v') w'):wpList P ops Q (o :: rest) a w:=by
 refine wpList_plain hgd fun K hK=>?_
 obtain⟨v',w',hr,h2,h3,h4⟩:=zQt (P:=P) t o.type e i ht hi hz hsize hby v n xs hown ad y hy h1 hbytes
 unfold Oper.wp execOp
 simp only[ho,resolve,invoke,builtin,Sem.run_bind,Sem.run_pure,Result.andThen_ok,List.map_toArray,List.map_cons,List.map_nil,hs,hx,hr]
 exact hK _ _ (h v' w' h2 h3 h4)
end
end
section
variable [ze]
open Go.Lib Go.RowKit
def BldU(T e b:Nat)(l:List UInt8)(w:World)(f:List Nat):Prop:=
 ∃v,w.heap[b]?=some (.cells #[.pointer (some ⟨b,0,none⟩),v] T (0,0))∧w.ownsRow 0 e 1 v l.length (l.map fun x=>Value.int .u8 x.toNat)∧v.ownBlock≠some b∧f=b :: v.ownBlock.toList
theorem zTP:(Try.prog.info? 99).map (·.size)=some 2:=by kernel_rfl
theorem liesB:liesAt Try.prog Try.prog.depth 99 (2 / Try.prog.cellsOf 99) 0 99 1=true:=by kernel_rfl
theorem zS0:(Try.prog.info? 5).map (fun i=>(i.zero,i.size,i.bytes))=some (some (.int .u8 0),1,1):=by kernel_rfl
set_option maxHeartbeats 1000000 in
set_option maxRecDepth 100000 in
theorem zLm(b:Nat)(w:World)(h0:w.cell? ⟨b,0,none⟩=some (.pointer (some ⟨b,0,none⟩))) :
  Calls Try.prog 72 #[.pointer (some ⟨b,0,none⟩)] w fun e w'=>e=.returned (.tuple #[])∧w'=w:=by
 obtain⟨j,hj,_⟩:=Option.map_eq_some_iff.1 zTP
 go_enter Try.func72,Try.ntmps72
 go_wp2
 rw[Lib.run_neq_ptr_same w _ Try.underlying97 hj]
 go_wp2
 go_end0
 exact⟨rfl,rfl⟩
set_option maxHeartbeats 1000000 in
set_option maxRecDepth 100000 in
theorem zJ0(b:Nat)(w:World)(h0:w.cell? ⟨b,0,none⟩=some (.pointer none))(hsh:w.shape? b=some (99,2))(hfz:w.frozen? ⟨b,0,none⟩=false) :
  Calls Try.prog 72 #[.pointer (some ⟨b,0,none⟩)] w fun e w'=>e=.returned (.tuple #[])∧w'=w.setCell ⟨b,0,none⟩ (.pointer (some ⟨b,0,none⟩)):=by
 obtain⟨j,hj,hjs⟩:=Option.map_eq_some_iff.1 zTP
 go_enter Try.func72,Try.ntmps72
 go_wp2
 rw[Lib.run_to_unsafe w ⟨b,0,none⟩ Try.underlying97 Try.underlying123 hj (by rw[hjs];decide) hsh (Nat.zero_lt_succ 1)]
 simp only[Result.andThen]
 rw[Oper.upon_value]
 go_wp2
 rw[run_callFunc_extern Try.func91 (by kernel_rfl) (by kernel_rfl) (by kernel_rfl) (e:=Extern.AbiNoEscape.same) (by kernel_rfl)]
 rw[Lib.run_noEscape]
 simp only[Result.andThen]
 rw[Oper.upon_value]
 go_wp2
 rw[Lib.run_from_unsafe w ⟨b,0,none⟩ Try.underlying123 Try.underlying97 hj hsh liesB]
 simp only[Result.andThen]
 rw[Oper.upon_value]
 go_wp2
 go_end0
 exact⟨rfl,rfl⟩
theorem zI1(b:Nat)(l:List UInt8)(w:World)(f:List Nat)(h:zCR 99 5 b l w f) :
  Calls Try.prog 72 #[.pointer (some ⟨b,0,none⟩)] w fun e w'=>e=.returned (.tuple #[])∧BldU 99 5 b l w' f∧Fr w [b] w':=by
 obtain⟨p,v,hp,hb,hown,hne,hf⟩:=h
 have hlt:b < w.heap.size:=(Array.getElem?_eq_some_iff.1 hb).1
 rcases hp with rfl | rfl
 ·refine(zJ0 b w (by simp[World.cell?,hb]) (by simp[World.shape?,hb]) (by simp[World.frozen?,hb])).mono ?_
  rintro e w' ⟨rfl,rfl⟩
  have hfr:Fr w [b] (w.setCell ⟨b,0,none⟩ (.pointer (some ⟨b,0,none⟩))):=
   ⟨rfl,rfl,rfl,by simp[World.setCell],fun k hk hn=>Below.heap_setCell _ _ _ _ (fun e=>hn (by simp[e]))⟩
  refine⟨rfl,⟨v,?_,?_,hne,hf⟩,hfr⟩
  ·simp[World.setCell,Array.getElem?_modify,hb]
  ·exact hown.kept (row:=some b) ⟨rfl,rfl,rfl,by simp[World.setCell],fun k _ hk=>Below.heap_setCell _ _ _ _ (fun e=>hk (by simp[e]))⟩ (Or.inr hne)
 ·refine(zLm b w (by simp[World.cell?,hb])).mono ?_
  rintro e w' ⟨rfl,rfl⟩
  exact⟨rfl,⟨v,hb,hown,hne,hf⟩,Fr.refl _ _⟩
theorem zOf{w w':World}{row:Option Nat}(h:w.grownBy w' row):Fr w row.toList w':=
 ⟨h.os,h.tape,h.output,h.size,fun k hk hn=>h.block k hk (fun e=>hn (by rw[←e];simp))⟩
theorem zNX{T b:Nat}{v v':Value}{l':List UInt8}{w w1 w2:World}{f:List Nat}(hT:T≠5)(h1:Fr w [b] w1)(hbw:b < w.heap.size)(hb:w1.heap[b]?=some (.cells #[.pointer (some ⟨b,0,none⟩),v] T (0,0)))(hne:v.ownBlock≠some b)(hf:f=b :: v.ownBlock.toList)
  (hown:w2.ownsRow 0 5 1 v' l'.length (l'.map fun x=>Value.int .u8 x.toNat)) (hg:w1.grownBy w2 v.ownBlock) (ho:v'.ownBlock=v.ownBlock∨∃k,v'.ownBlock=some k∧w.heap.size≤k) (hv:∀k,v.ownBlock=some k→k < w.heap.size) :
  ∃f',zCR T 5 b l' (w2.setCell ⟨b,1,none⟩ v') f'∧Fr w f (w2.setCell ⟨b,1,none⟩ v')∧∀x∈f',x∈f∨w.heap.size≤x:=by
 have hb2:w2.heap[b]?=some (.cells #[.pointer (some ⟨b,0,none⟩),v] T (0,0)):=by
  rw[hg.block b (Array.getElem?_eq_some_iff.1 hb).1 (fun e=>hne e.symm)];exact hb
 have hne':=ownBlock_ne hown hb2 hT
 have hfr2:Fr w2 [b] (w2.setCell ⟨b,1,none⟩ v'):=⟨rfl,rfl,rfl,by simp[World.setCell],fun k hk hn=>Below.heap_setCell _ _ _ _ (fun e=>hn (by simp[e]))⟩
 refine⟨b :: v'.ownBlock.toList,⟨_,v',.inr rfl,?_,?_,hne',rfl⟩,?_,?_⟩
 ·simp[World.setCell,Array.getElem?_modify,hb2]
 ·exact hown.kept (row:=some b) ⟨rfl,rfl,rfl,by simp[World.setCell],fun k _ hk=>Below.heap_setCell _ _ _ _ (fun e=>hk (by simp[e]))⟩ (Or.inr hne')
 ·subst hf
  refine((h1.trans (zOf hg) (Z:=b :: v.ownBlock.toList) (fun x hx=>by simp at hx;simp[hx]) (fun x hx=>.inl (by simp at hx ⊢;exact .inr hx))).trans hfr2 (fun x hx=>hx) (fun x hx=>.inl (by simp at hx;simp[hx])))
 ·intro x hx
  subst hf
  simp only[List.mem_cons,Option.mem_toList] at hx ⊢
  rcases hx with rfl | hx
  ·exact .inl (.inl rfl)
  ·rcases ho with ho | ⟨k,ho,hk⟩
   ·rw[ho] at hx;exact .inl (.inr hx)
   ·rw[ho] at hx;cases hx;exact .inr hk
end
section
variable [ze]
inductive It2 where
 | o (i:It)
 | bp (t off:Nat) (o:Own) (T:PTy)
end
end Go.Proofs.Ytdmbfkooebldcaa
