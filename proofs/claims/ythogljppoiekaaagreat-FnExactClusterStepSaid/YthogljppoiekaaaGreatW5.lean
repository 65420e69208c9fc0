/-
  Part 5: contracts of functions, and the laws by which they are proved.
  Conditions: none.
-/
import Derived.Test.YthogljppoiekaaaGreatW4
import Derived.Test.YthogljppoiekaaaGreatChecked
import Derived.Lib.Builder
import Derived.Lib.AppendStr
import Derived.Lib.UnsafeStr
import Derived.WalkKit
import Derived.OwnWalk
import Derived.Laws.Externs
set_option linter.unusedVariables false
set_option linter.unusedSimpArgs false
set_option linter.unusedSectionVars false
set_option maxRecDepth 100000
namespace Go.Proofs.YthogljppoiekaaaGreat
section
variable [zS]
def rn(ρ:List (Nat × Nat))(h:Nat):Nat:=match lk ρ h with | some i=>i | none=>h
mutual
def zOz(ρ:List (Nat × Nat)):SV→SV→Prop
 | x,.int k n=>match x with | .int k' n'=>k'=k∧n'=n | _=>False
 | x,.bool b=>match x with | .bool b'=>b'=b | _=>False
 | x,.str l=>match x with | .str l'=>l'=l | _=>False
 | x,.sl h=>match x with | .sl h'=>h'=rn ρ h | _=>False
 | x,.ptr h o=>match x with | .ptr h' o'=>h'=rn ρ h∧o'=o | _=>False
 | x,.elp h i d o=>match x with | .elp h' i' d' o'=>h'=rn ρ h∧i'=i∧d'=d∧o'=o | _=>False
 | x,.agg ys=>match x with | .agg xs=>zOy ρ xs ys | _=>False
 | x,.tup ys=>match x with | .tup xs=>zOy ρ xs ys | _=>False
 | x,.fn f ys=>match x with | .fn f' xs=>f'=f∧zOy ρ xs ys | _=>False
 | x,.nils=>match x with | .nils=>True | _=>False
 | x,.nilp=>match x with | .nilp=>True | _=>False
 | x,.glo g i=>match x with | .glo g' i'=>g'=g∧i'=i | _=>False
def zOy(ρ:List (Nat × Nat)):List SV→List SV→Prop
 | xs,[]=>match xs with | []=>True | _=>False
 | xs,y :: ys=>match xs with | x :: xs=>zOz ρ x y∧zOy ρ xs ys | _=>False
end
def entR(ρ:List (Nat × Nat))(D:List Nat)(rs rs':List Nat):Prop:=
 (∀i∈D,zGg rs (rn ρ i)=true→zGg rs' i=true)∧∀r∈rs',zGg D r=true∧zGg rs (rn ρ r)=true
def zY7(ρ:List (Nat × Nat))(D:List Nat):Own→Own→Prop
 | .vw rs,.vw rs'=>entR ρ D rs rs'
 | .sh,.sh=>True
 | .dp,.dp=>True
 | .cs k,.cs k'=>k=k'
 | .dp,.cs k=>k=0
 | .dp,.vw []=>True
 | .sh,.vw []=>True
 | _,_=>False
def zM2(ρ:List (Nat × Nat))(D:List Nat):HL→HL→Prop
 | .arr o T es _,.arr o' T' es' p'=>zY7 ρ D o o'∧T=T'∧es=es'∧p'=.no
 | .box ow _ cs,.box ow' _ cs'=>ow=ow'∧zOy ρ cs cs'
 | .abx ow T es,.abx ow' T' es'=>ow=ow'∧T=T'∧es=es'
 | .bld T e l,.bld T' e' l'=>T=T'∧e=e'∧l=l'
 | _,_=>False
def ze9(n:Nat):HL→Prop | .box _ _ cs=>SV.lts n cs | _=>True
def zdu:Hp→List Nat
 | []=>[]
 | (h,_) :: r=>h :: zdu r
def entA(ρ:List (Nat × Nat))(A:Hp)(B:List Nat)(n:Nat):Hp→Prop
 | []=>True
 | (h,hl') :: r=>(match lk A (rn ρ h) with | some hl=>zM2 ρ B hl hl' | none=>False)∧h < n∧ze9 n hl'∧entA ρ A B n r
def entL(ρ:List (Nat × Nat))(keep:List Nat)(n:Nat)(L:List (Nat × SV)):List (Nat × SV)→Prop
 | []=>True
 | (t,v') :: r=>(match lk L t with | some v=>zOz ρ v v' | none=>False)∧keep.contains t=true∧SV.lt n v'∧entL ρ keep n L r
def ent(keep:List Nat)(n0:Nat)(ρ:List (Nat × Nat))(S T:St):Prop:=
 T.Lt=[]∧n0≤T.n∧(∀p∈ρ,n0≤p.1)∧(T.A.map fun p=>rn ρ p.1).Nodup∧entL ρ keep T.n S.Lp T.Lp∧entA ρ S.A (zdu T.A) T.n T.A
mutual
theorem zVw{ρ:List (Nat × Nat)}(β:Nat→GV):∀(x y:SV),zOz ρ x y→SV.val (fun h=>β (rn ρ h)) y=SV.val β x
 | x,.int k n,h=>by cases x<;>simp only[zOz] at h<;>obtain⟨rfl,rfl⟩:=h;rfl
 | x,.bool b,h=>by cases x<;>simp only[zOz] at h;subst h;rfl
 | x,.str l,h=>by cases x<;>simp only[zOz] at h;subst h;rfl
 | x,.sl i,h=>by cases x<;>simp only[zOz] at h;subst h;rfl
 | x,.ptr i o,h=>by cases x<;>simp only[zOz] at h<;>obtain⟨rfl,rfl⟩:=h;rfl
 | x,.elp i j d o,h=>by cases x<;>simp only[zOz] at h<;>obtain⟨rfl,rfl,rfl,rfl⟩:=h;rfl
 | x,.agg ys,h=>by cases x<;>simp only[zOz] at h;simp only[SV.val];rw[zLO β _ ys h]
 | x,.tup ys,h=>by cases x<;>simp only[zOz] at h;simp only[SV.val];rw[zLO β _ ys h]
 | x,.fn f ys,h=>by cases x<;>simp only[zOz] at h<;>obtain⟨rfl,h⟩:=h;simp only[SV.val];rw[zLO β _ ys h]
 | x,.nils,h=>by cases x<;>simp only[zOz] at h;rfl
 | x,.nilp,h=>by cases x<;>simp only[zOz] at h;rfl
 | x,.glo g i,h=>by cases x<;>simp only[zOz] at h<;>obtain⟨rfl,rfl⟩:=h;rfl
theorem zLO{ρ:List (Nat × Nat)}(β:Nat→GV):∀(xs ys:List SV),zOy ρ xs ys→SV.vals (fun h=>β (rn ρ h)) ys=SV.vals β xs
 | xs,[],h=>by cases xs<;>simp only[zOy] at h;rfl
 | xs,y :: ys,h=>by cases xs<;>simp only[zOy] at h;simp only[SV.vals];rw[zVw β _ y h.1,zLO β _ ys h.2]
end
mutual
theorem zYX{ρ:List (Nat × Nat)}(β:Nat→GV):∀(x y:SV),zOz ρ x y→SV.ok β x→SV.ok (fun h=>β (rn ρ h)) y
 | x,.int k n,h,hk=>by cases x<;>simp only[zOz] at h<;>obtain⟨rfl,rfl⟩:=h;exact hk
 | x,.bool b,h,hk=>trivial
 | x,.str l,h,hk=>by cases x<;>simp only[zOz] at h;subst h;exact hk
 | x,.sl i,h,hk=>trivial
 | x,.ptr i o,h,hk=>by cases x<;>simp only[zOz] at h<;>obtain⟨rfl,rfl⟩:=h;exact hk
 | x,.elp i j d o,h,hk=>by cases x<;>simp only[zOz] at h<;>obtain⟨rfl,rfl,rfl,rfl⟩:=h;exact hk
 | x,.agg ys,h,hk=>by cases x<;>simp only[zOz] at h;exact zNd β _ ys h hk
 | x,.tup ys,h,hk=>by cases x<;>simp only[zOz] at h;exact zNd β _ ys h hk
 | x,.fn f ys,h,hk=>by cases x<;>simp only[zOz] at h<;>obtain⟨rfl,h⟩:=h;exact zNd β _ ys h hk
 | x,.nils,h,hk=>trivial
 | x,.nilp,h,hk=>trivial
 | x,.glo g i,h,hk=>trivial
theorem zNd{ρ:List (Nat × Nat)}(β:Nat→GV):∀(xs ys:List SV),zOy ρ xs ys→SV.oks β xs→SV.oks (fun h=>β (rn ρ h)) ys
 | xs,[],h,hk=>trivial
 | xs,y :: ys,h,hk=>by cases xs<;>simp only[zOy] at h;exact⟨zYX β _ y h.1 hk.1,zNd β _ ys h.2 hk.2⟩
end
section
variable {C:Cx} {S T:St} {a:Act} {w:World} {ρ:List (Nat × Nat)} {k:List KI}
theorem zem{n0 h:Nat}(hρ:∀p∈ρ,n0≤p.1)(hh:h < n0):rn ρ h=h:=by
 unfold rn
 have:lk ρ h=none:=by
  induction ρ with
  | nil=>rfl
  | cons p ρ ih=>
   obtain⟨i,j⟩:=p
   simp only[lk]
   have:=hρ (i,j) (by simp)
   rw[if_neg (by simp at this;omega)]
   exact ih fun p hp=>hρ p (by simp[hp])
 rw[this]
theorem zU0{keep:List Nat}{n:Nat}{L:List (Nat × SV)}:∀{L':List (Nat × SV)},entL ρ keep n L L'→∀t v',lk L' t=some v'→∃v,lk L t=some v∧zOz ρ v v'∧keep.contains t=true∧SV.lt n v'
 | [],_,t,v',h=>by cases h
 | (i,x) :: r,hL,t,v',h=>by
  obtain⟨h1,h2,h3,h4⟩:=hL
  simp only[lk] at h
  split at h
  ·rename_i e;subst e;cases h
   split at h1
   ·rename_i v hv;exact⟨v,hv,h1,h2,h3⟩
   ·exact h1.elim
  ·exact zU0 h4 t v' h
theorem zYZ{A:Hp}{B:List Nat}{n:Nat}:∀{A':Hp},entA ρ A B n A'→∀i hl',lk A' i=some hl'→∃hl,lk A (rn ρ i)=some hl∧zM2 ρ B hl hl'∧i < n∧ze9 n hl'∧∃p∈A',p.1=i
 | [],_,t,v',h=>by cases h
 | (i,x) :: r,hL,t,v',h=>by
  obtain⟨h1,h2,h3,h4⟩:=hL
  simp only[lk] at h
  split at h
  ·rename_i e;subst e;cases h
   split at h1
   ·rename_i hl hv;exact⟨hl,hv,h1,h2,h3,(i,x),by simp,rfl⟩
   ·exact h1.elim
  ·obtain⟨hl,q1,q2,q3,q4,p,q5,q6⟩:=zYZ h4 t v' h
   exact⟨hl,q1,q2,q3,q4,p,by simp[q5],q6⟩
theorem zTG{α β:Type}{f:α→β}:∀{l:List α},(l.map f).Nodup→∀x∈l,∀y∈l,f x=f y→x=y
 | [],_,x,hx,_,_,_=>by cases hx
 | z :: l,h,x,hx,y,hy,e=>by
  simp only[List.map_cons,List.nodup_cons] at h
  rcases List.mem_cons.1 hx with hx1 | hx2<;>rcases List.mem_cons.1 hy with hy1 | hy2
  ·rw[hx1,hy1]
  ·subst hx1;exact absurd (List.mem_map.2 ⟨y,hy2,e.symm⟩) h.1
  ·subst hy1;exact absurd (List.mem_map.2 ⟨x,hx2,e⟩) h.1
  ·exact zTG h.2 x hx2 y hy2 e
theorem zYd{A:Hp}{i:Nat}:i∈zdu A↔∃hl,lk A i=some hl:=by
 induction A with
 | nil=>simp[zdu,lk]
 | cons p A ih=>
  obtain⟨h,x⟩:=p
  simp only[zdu,List.mem_cons,lk]
  by_cases e:h=i
  ·simp[e]
  ·simp only[if_neg e,←ih]
   exact⟨fun h=>h.resolve_left (Ne.symm e),.inr⟩
theorem zZw{D:List Nat}{o:Own}{T:PTy}{es:List PV}{p:Pth}:∀{hl:HL},zM2 ρ D hl (.arr o T es p)→∃o' p',hl=.arr o' T es p'∧zY7 ρ D o' o∧p=.no
 | .arr o' T' es' p',h=>by obtain⟨ho,rfl,rfl,hp⟩:=h;exact⟨_,_,rfl,ho,hp⟩
 | .dead,h=>by simp[zM2] at h
 | .box _ _ _,h=>by simp[zM2] at h
 | .abx _ _ _,h=>by simp[zM2] at h
 | .bld _ _ _,h=>by simp[zM2] at h
theorem zSZ{D:List Nat}{ow:Bool}{t:TypeId}{cs:List SV}:∀{hl:HL},zM2 ρ D hl (.box ow t cs)→∃t' cs',hl=.box ow t' cs'∧zOy ρ cs' cs
 | .box ow t' cs',h=>by obtain⟨rfl,h⟩:=h;exact⟨_,_,rfl,h⟩
 | .dead,h=>by simp[zM2] at h
 | .arr _ _ _ _,h=>by simp[zM2] at h
 | .abx _ _ _,h=>by simp[zM2] at h
 | .bld _ _ _,h=>by simp[zM2] at h
theorem zZx{D:List Nat}{ow:Bool}{T:PTy}{es:List PV}:∀{hl:HL},zM2 ρ D hl (.abx ow T es)→hl=.abx ow T es
 | .abx ow' T' es',h=>by obtain⟨rfl,rfl,rfl⟩:=h;rfl
 | .dead,h=>by simp[zM2] at h
 | .arr _ _ _ _,h=>by simp[zM2] at h
 | .box _ _ _,h=>by simp[zM2] at h
 | .bld _ _ _,h=>by simp[zM2] at h
theorem zZv{D:List Nat}{T e:Nat}{l:List UInt8}:∀{hl:HL},zM2 ρ D hl (.bld T e l)→hl=.bld T e l
 | .bld T' e' l',h=>by obtain⟨rfl,rfl,rfl⟩:=h;rfl
 | .dead,h=>by simp[zM2] at h
 | .arr _ _ _ _,h=>by simp[zM2] at h
 | .box _ _ _,h=>by simp[zM2] at h
 | .abx _ _ _,h=>by simp[zM2] at h
theorem zYY{D:List Nat}:∀{hl:HL},¬zM2 ρ D hl .dead
 | .arr o' T' es' _,h=>by simp[zM2] at h
 | .dead,h=>by simp[zM2] at h
 | .box _ _ _,h=>by simp[zM2] at h
 | .abx _ _ _,h=>by simp[zM2] at h
 | .bld _ _ _,h=>by simp[zM2] at h
theorem zHe{D:List Nat}{w:World}{g:GV}{β:Nat→GV}{f:List Nat}{hl hl':HL}(h:zM2 ρ D hl hl') :
  (zEU w g β f hl→zEU w g (fun h=>β (rn ρ h)) f hl')∧(∀b∈zq f hl',b∈zq f hl)∧(isA hl'→isA hl)∧(zOr f hl→zOr f hl')∧hl≠.dead∧(∀i∈D,rn ρ i∈yc hl→i∈yc hl')∧(∀r∈yc hl',r∈D∧rn ρ r∈yc hl)∧(∀A β' w' g',zLw A β' w' g' hl'):=by
 cases hl' with
 | dead=>exact(zYY h).elim
 | box ow t cs=>
  obtain⟨t',cs',rfl,q⟩:=zSZ h
  refine⟨?_,fun b hb=>by cases ow with | true=>simpa[zq] using hb | false=>simp[zq] at hb,fun h=>by cases ow<;>exact h,fun _=>trivial,by simp,by simp[yc],by simp[yc],fun _ _ _ _=>trivial⟩
  rintro⟨b,t',s1,s2,s3⟩
  exact⟨b,t',s1,s2,by rw[zLO β _ _ q];exact s3⟩
 | bld T e l=>
  have:=zZv h
  subst this
  exact⟨fun h=>h,fun b hb=>hb,fun h=>h,fun h=>h,by simp,by simp[yc],by simp[yc],fun _ _ _ _=>trivial⟩
 | abx ow T es=>
  have:=zZx h
  subst this
  exact⟨fun h=>h,fun b hb=>hb,fun h=>h,fun h=>h,by simp,by simp[yc],by simp[yc],fun _ _ _ _=>trivial⟩
 | arr o T es p=>
  obtain⟨o',p',rfl,ho,rfl⟩:=zZw h
  have hpath:∀A β' w' g',zLw A β' w' g' (.arr o T es .no):=fun A β' w' g'=>by cases o<;>trivial
  cases o' with
  | vw rs=>
   cases o<;>simp only[zY7] at ho
   rename_i rs'
   refine⟨fun h=>h,fun b hb=>by simp[zq] at hb,fun h=>h,fun h=>h,by simp,fun i hi hm=>zDP.1 (ho.1 i hi (zDP.2 hm)),fun r hr=>⟨zDP.1 (ho.2 r hr).1,zDP.1 (ho.2 r hr).2⟩,hpath⟩
  | sh=>
   cases o with
   | sh=>exact⟨fun h=>h,fun b hb=>hb,fun h=>h,fun h=>h,by simp,by simp[yc],by simp[yc],hpath⟩
   | vw rs=>
    cases rs with
    | nil=>exact⟨fun h=>zRB.lv h,fun b hb=>by simp[zq] at hb,fun h=>h,fun _=>trivial,by simp,by simp[yc],by simp[yc],hpath⟩
    | cons=>simp[zY7] at ho
   | _=>simp[zY7] at ho
  | cs k=>
   cases o<;>simp only[zY7] at ho
   subst ho
   exact⟨fun h=>h,fun b hb=>hb,fun h=>h,fun h=>h,by simp,by simp[yc],by simp[yc],hpath⟩
  | dp=>
   cases o with
   | dp=>exact⟨fun h=>h,fun b hb=>hb,fun h=>h,fun h=>h,by simp,by simp[yc],by simp[yc],hpath⟩
   | vw rs=>
    cases rs with
    | nil=>exact⟨fun h=>zIn.lv h,fun b hb=>by simp[zq] at hb,fun h=>h,fun _=>trivial,by simp,by simp[yc],by simp[yc],hpath⟩
    | cons=>simp[zY7] at ho
   | cs k=>
    simp only[zY7] at ho
    subst ho
    refine⟨fun h=>?_,fun b hb=>hb,fun h=>h,fun h=>h,by simp,by simp[yc],by simp[yc],hpath⟩
    rcases h with h | ⟨b,f1,cs,rfl,hr,hs,hv⟩
    ·exact .inl h
    ·exact .inr ⟨b,f1,[],cs,rfl,by simpa using hr,by simp,hs,by simpa using hv⟩
   | sh=>simp[zY7] at ho
theorem zYW(h:ent C.keep C.n0 ρ S T)(hat:At C S a w):At C T a w:=by
 obtain⟨e1,e2,e3,e4,e5,e6⟩:=h
 obtain⟨kp,hn,β,ϕ,sat,h0⟩:=hat
 have hlk:=fun i hl' hi=>zYZ e6 i hl' hi
 have inj:∀i j hl hl',lk T.A i=some hl→lk T.A j=some hl'→rn ρ i=rn ρ j→i=j:=by
  intro i j hl hl' hi hj e
  obtain⟨_,_,_,_,_,p,p1,p2⟩:=hlk i hl hi
  obtain⟨_,_,_,_,_,q,q1,q2⟩:=hlk j hl' hj
  have:=zTG e4 p p1 q q1 (by rw[p2,q2];exact e)
  rw[←p2,←q2,this]
 refine⟨⟨fun t v h=>(zU0 e5 t v h).elim fun _ q=>q.2.2.1,fun t x h=>by rw[e1] at h;cases h⟩,e2,fun h=>β (rn ρ h),fun h=>ϕ (rn ρ h),⟨sat.df,sat.sz,?_,?_,?_,?_,sat.fr,sat.gl⟩,?_⟩
 ·intro t v' ht
  obtain⟨v,q1,q2,q3,q4⟩:=zU0 e5 t v' ht
  obtain⟨s1,s2,s3⟩:=sat.lp t v q1
  exact⟨by rw[zVw β v v' q2];exact s1,q4,zYX β v v' q2 s3⟩
 ·intro t g v ht;rw[e1] at ht;cases ht
 ·refine⟨fun h=>sat.hp.pl _,?_,?_,?_,?_,?_,?_,?_⟩
  ·intro i hl' hi
   obtain⟨hl,q1,q2,q3,q4,_⟩:=hlk i hl' hi
   exact(zHe q2).1 (sat.hp.sat _ _ q1)
  ·intro i hl' hi b hb
   obtain⟨hl,q1,q2,q3,q4,_⟩:=hlk i hl' hi
   exact sat.hp.own _ _ q1 b ((zHe (w:=w) (g:=β 0) (β:=β) q2).2.1 b hb)
  ·intro i hl' hi ha b hb
   obtain⟨hl,q1,q2,q3,q4,_⟩:=hlk i hl' hi
   exact sat.hp.all _ _ q1 ((zHe (w:=w) (g:=β 0) (β:=β) (f:=[]) q2).2.2.1 ha) b hb
  ·intro i hl' hi
   obtain⟨hl,q1,q2,q3,q4,_⟩:=hlk i hl' hi
   exact(zHe (w:=w) (g:=β 0) (β:=β) q2).2.2.2.1 (sat.hp.nd _ _ q1)
  ·intro i j hl hl' hi hj hne hnv hdd b hb
   obtain⟨hl1,q1,q2,q3,q4,_⟩:=hlk i hl hi
   obtain⟨hl2,r1,r2,r3,r4,_⟩:=hlk j hl' hj
   have k1:=zHe (w:=w) (g:=β 0) (β:=β) (f:=ϕ (rn ρ i)) q2
   have k2:=zHe (w:=w) (g:=β 0) (β:=β) (f:=[]) r2
   exact sat.hp.dj _ _ _ _ q1 r1 (fun e=>hne (inj _ _ _ _ hi hj e)) (fun hm=>hnv (k2.2.2.2.2.2.1 i (zYd.2 ⟨_,hi⟩) hm)) k2.2.2.2.2.1 b (k1.2.1 b hb)
  ·intro i hl' hi
   obtain⟨hl,q1,q2,q3,q4,_⟩:=hlk i hl' hi
   exact(zHe (w:=w) (g:=β 0) (β:=β) (f:=[]) q2).2.2.2.2.2.2.2 _ _ _ _
  ·intro i hl' hi r hr o t cs hc
   obtain⟨hl,q1,q2,q3,q4,_⟩:=hlk i hl' hi
   obtain⟨_,k2⟩:=(zHe (w:=w) (g:=β 0) (β:=β) (f:=[]) q2).2.2.2.2.2.2.1 r hr
   obtain⟨hl0,r1,r2,_⟩:=hlk r _ hc
   obtain⟨t',cs',rfl,_⟩:=zSZ r2
   exact sat.hp.rt _ _ q1 _ k2 _ _ _ r1
 ·intro i hl' hi
  obtain⟨hl,q1,q2,q3,q4,_⟩:=hlk i hl' hi
  refine⟨q3,?_⟩
  cases hl' with
  | box ow t cs=>
   obtain⟨t',cs',rfl,q5⟩:=zSZ q2
   exact⟨q4,zNd β _ _ q5 (sat.hb _ _ q1).2.2⟩
  | arr o T' es p=>
   cases o<;>(try trivial)
   intro r hr
   obtain⟨k1,_⟩:=(zHe (w:=w) (g:=β 0) (β:=β) (f:=[]) q2).2.2.2.2.2.2.1 r hr
   obtain⟨hl0,k3⟩:=zYd.1 k1
   obtain⟨_,_,_,k4,_⟩:=hlk r _ k3
   exact k4
  | abx _ _ _=>trivial
  | bld _ _ _=>trivial
  | dead=>trivial
 ·intro h hh
  show β (rn ρ h)=_
  rw[zem e3 hh]
  exact h0 h hh
theorem zVO{c:Code}{Y:Type}(st:Y→St)(Φ:Y→Prop)(μ:Y→Nat)(h0:∃y ρ,Φ y∧ent C.keep C.n0 ρ S (st y))
  (round:∀y,Φ y→WP C (.code c :: .post (fun S'=>∃y' ρ,Φ y'∧μ y' < μ y∧ent C.keep C.n0 ρ S' (st y')) :: k) (st y)):WP C (.code (.loop c) :: k) S:=by
 classical
 intro a w hat
 let M:Act→World→Nat→Prop:=fun a w n=>∃y,Φ y∧At C (st y) a w∧μ y=n
 have least:∀a w n,M a w n→∃m,M a w m∧∀j,M a w j→m≤j:=by
  intro a w n hn
  induction n using Nat.strongRecOn with
  | ind n ih=>
   by_cases h:∃j,M a w j∧j < n
   ·obtain⟨j,h1,h2⟩:=h;exact ih j h2 h1
   ·exact⟨n,hn,fun j hj=>Nat.le_of_not_lt fun hl=>h ⟨j,hj,hl⟩⟩
 let mu:Act→World→Nat:=fun a w=>if h:∃m,M a w m∧∀j,M a w j→m≤j then h.choose else 0
 refine wp_loop (fun a w=>∃y,Φ y∧At C (st y) a w) mu ?_ ?_
 ·obtain⟨y,ρ,h1,h2⟩:=h0
  exact⟨y,h1,zYW h2 hat⟩
 ·intro a w ⟨y,hy,hay⟩
  have hex:=least a w _ ⟨y,hy,hay,rfl⟩
  have hmu:mu a w=hex.choose:=dif_pos hex
  obtain⟨⟨y1,hy1,hay1,he1⟩,hmin⟩:=hex.choose_spec
  have hr:=round y1 hy1 a w hay1
  refine Code.wp_mono ?_ hr
  intro e a' w' hq
  cases e with
  | normal=>
   obtain⟨S',hS',y',ρ,p1,p2,p3⟩:=hq
   have hay':=zYW p3 hS'
   refine⟨⟨y',p1,hay'⟩,?_⟩
   have hex':=least a' w' _ ⟨y',p1,hay',rfl⟩
   have hmu':mu a' w'=hex'.choose:=dif_pos hex'
   have:=hex'.choose_spec.2 _ ⟨y',p1,hay',rfl⟩
   rw[hmu,hmu',←he1]
   omega
  | _=>exact hq
theorem zNt{k1 k2:List KI}(h:∀e a w,xt C k1 e a w→xt C k2 e a w):∀(l:List KI) e a w,xt C (l++k1) e a w→xt C (l++k2) e a w
 | [],e,a,w,hx=>h e a w hx
 | .code c :: l,e,a,w,hx=>by
  have ih:=zNt h l
  cases e<;>first | exact Code.wp_mono (fun e a w q=>ih e a w q) hx | exact ih _ _ _ hx
 | .blk i :: l,e,a,w,hx=>by
  have ih:=zNt h l
  cases e with
  | exit j=>
   simp only[List.cons_append,xt,Exit.inBlock] at hx ⊢
   split
   ·rename_i e;rw[if_pos e] at hx;exact ih _ _ _ hx
   ·rename_i e;rw[if_neg e] at hx;exact ih _ _ _ hx
  | _=>exact ih _ _ _ hx
 | .post p :: l,e,a,w,hx=>by
  have ih:=zNt h l
  cases e<;>first | exact hx | exact ih _ _ _ hx
 | .run all m :: l,e,a,w,hx=>by
  have ih:=zNt h l
  cases e with
  | normal=>
   have mono:∀(m:List Oper) a w,wpList C.P all.toArray (xt C (l++k1)) m a w→wpList C.P all.toArray (xt C (l++k2)) m a w:=by
    intro m
    induction m with
    | nil=>intro a w h;exact ih _ _ _ h
    | cons o m ihm=>
     intro a w h
     unfold wpList at h ⊢
     split
     ·rename_i hw
      rw[if_pos hw] at h
      rcases h with h | ⟨h,a',w',hl⟩
      ·refine .inl ?_
       unfold Oper.wp at *
       generalize (execOp a.eval o).run C.P w=r at *
       cases r with
       | ok n w'=>
        cases n<;>simp only[Oper.upon] at h ⊢ <;>
         first
          | exact ihm _ _ h
          | exact Calls.mono h (fun e w'' he=>by cases e<;>first | exact ihm _ _ he | exact ih _ _ _ he | (obtain⟨a',w',he⟩:=he;exact⟨a',w',ih _ _ _ he⟩))
          | exact Rows.mono h (fun _ _ he=>ihm _ _ he)
       | halt x w'=>cases x<;>simp only[Oper.upon] at h ⊢<;>exact ih _ _ _ h
      ·exact .inr ⟨h,a',w',ih _ _ _ hl⟩
     ·rename_i hw
      rw[if_neg hw] at h
      exact ihm _ _ h
   exact mono m a w hx
  | _=>exact ih _ _ _ hx
theorem zad{p:St→Prop}(l:List KI)(h1:WP C (l++.post p :: k) S)(h2:∀S',p S'→WP C k S'):WP C (l++k) S:=by
 intro a w hat
 refine zNt (k1:=.post p :: k) ?_ l _ _ _ (h1 a w hat)
 intro e a w hx
 cases e with
 | normal=>obtain⟨S',h,hp⟩:=hx;exact h2 S' hp a w h
 | _=>exact hx
theorem zac(h:ent C.keep C.n0 ρ S T)(h1:WP C k T):WP C k S:=fun a w hat=>h1 a w (zYW h hat)
def zdo(all:List Oper):Nat→List Bool→List (List Nat)
 | 0,_=>[[]]
 | f+1,m=>match (List.range all.length).filter fun i=>!(m.getD i true)&&(match all[i]? with | some o=>o.after.toList.all fun e=>!Region.binds .any e || m.getD e.on false | none=>false) with
  | []=>[[]]
  | r=>r.flatMap fun i=>(zdo all f (m.set i true)).map fun l=>i :: l
def zKL(all:List Oper)(l:List Nat):List Oper:=l.filterMap fun i=>all[i]?
theorem zXd(all:List Oper):∀(f t:Nat) (m:List Bool),Region.linearise.go .any all.toArray f t m.toArray []∈zdo all f m:=by
 intro f
 induction f with
 | zero=>intro t m;simp[Region.linearise.go,zdo]
 | succ f ih=>
  intro t m
  have hrs:((List.range all.toArray.size).filter fun i=>!m.toArray.getD i true&&((all.toArray[i]?).map (·.after.all fun e=>!Region.binds .any e || m.toArray.getD e.on false)).getD false)
    = (List.range all.length).filter fun i=>!(m.getD i true)&&(match all[i]? with | some o=>o.after.toList.all fun e=>!Region.binds .any e || m.getD e.on false | none=>false):=by
   simp only[List.size_toArray]
   apply List.filter_congr
   intro i _
   cases h:all[i]?<;>simp[h]
  simp only[Region.linearise.go,zdo]
  rw[hrs]
  generalize ((List.range all.length).filter fun i=>!(m.getD i true)&&(match all[i]? with | some o=>o.after.toList.all fun e=>!Region.binds .any e || m.getD e.on false | none=>false))=r
  cases r with
  | nil=>simp
  | cons x xs=>
   have hlt:t % (x :: xs).length < (x :: xs).length:=Nat.mod_lt _ (by simp)
   have hg:=List.getElem?_eq_getElem hlt
   rw[hg]
   simp only
   rw[linearise_go_acc,List.reverse_singleton,List.singleton_append]
   refine List.mem_flatMap.2 ⟨_,List.getElem_mem hlt,List.mem_map.2 ⟨_,?_,rfl⟩⟩
   have:=ih (t / (x :: xs).length) (m.set ((x :: xs)[t % (x :: xs).length]) true)
   simpa using this
theorem zRC{P:Program}{all:List Oper}{Q:Exit→Act→World→Prop}:∀(l:List Nat),wpOps P all.toArray Q l=wpList P all.toArray Q (zKL all l)
 | []=>by funext a w;simp[wpOps,zKL,wpList]
 | i :: l=>by
  have ih:=zRC (P:=P) (all:=all) (Q:=Q) l
  funext a w
  cases h:all[i]? with
  | none=>simp[wpOps,zKL,h,ih]
  | some o=>
   have:zKL all (i :: l)=o :: zKL all l:=by simp[zKL,h]
   rw[this]
   simp[wpOps,h,wpList,ih]
theorem za2{id:Nat}{ops:Array Oper}(hC:C.Ok)(h:∀l∈zdo ops.toList ops.toList.length (List.replicate ops.toList.length false),WP C (.run ops.toList (zKL ops.toList l) :: k) { S with Lt:=[] }):WP C (.code (.region id ops true) :: k) S:=by
 intro a w hat
 refine wp_region_draw fun t=>?_
 have ho:=zXd ops.toList ops.size t (List.replicate ops.size false)
 have h1:=h _ (by simpa using ho) a _ (zT1 (zU9 hat))
 have h2:wpList C.P ops.toList.toArray (xt C k) _ a _:=h1
 have h3:Region.schedule (C.P.follows .mixedOrders) ops t=Region.linearise.go .any ops.toList.toArray ops.size t (List.replicate ops.size false).toArray []:=by
  simp only[Region.schedule,hC.mix,Bool.true_or,if_true,Region.linearise]
  simp
 rw[h3]
 have h4:=zRC (P:=C.P) (all:=ops.toList) (Q:=xt C k) (Region.linearise.go .any ops.toList.toArray ops.size t (List.replicate ops.size false).toArray [])
 simp only[Array.toArray_toList] at h4 h2 ⊢
 rw[h4]
 exact h2
end
inductive It where
 | sl (t:Nat) (o:Own) (T:PTy)
 | bx (t:Nat) (Ts:List PTy)
 | ar (t:Nat) (T:PTy)
 | bl (t:Nat)
 | ax (t:Nat)
 | bs (t:Nat) (Ts:List PTy)
 | nb (t bt:Nat) (Ts:List PTy)
 | fx (t:Nat) (Ts:List PTy)
 | cu (t:Nat)
def zOu(S:St):List It→Option (Prop × List PV)
 | []=>some (True,[])
 | .sl t _ T :: r=>match lk S.Lp t with
  | some x=>(match zDF S.A T x,zOu S r with | some (o,p),some (o',ps)=>some (o∧o',p :: ps) | _,_=>none)
  | none=>none
 | .bx t Ts :: r=>match lk S.Lp t with
  | some (.ptr h _)=>(match lk S.A h with
   | some (.box _ _ cs)=>(match zBh S.A Ts cs,zOu S r with | some (o,p),some (o',ps)=>some (o∧o',.agg p :: ps) | _,_=>none)
   | _=>none)
  | _=>none
 | .bs t Ts :: r=>match lk S.Lp t with
  | some (.ptr h _)=>(match lk S.A h with
   | some (.box _ _ cs)=>(match zBh S.A Ts cs,zOu S r with | some (o,p),some (o',ps)=>some (o∧o',.agg p :: ps) | _,_=>none)
   | _=>none)
  | _=>none
 | .fx t Ts :: r=>match lk S.Lp t with
  | some (.ptr h _)=>(match lk S.A h with
   | some (.box _ _ cs)=>(match zBh S.A Ts cs,zOu S r with | some (o,p),some (o',ps)=>some (o∧o',.agg p :: ps) | _,_=>none)
   | _=>none)
  | _=>none
 | .nb t _ Ts :: r=>match lk S.Lp t with
  | some (.ptr h _)=>(match lk S.A h with
   | some (.box _ _ cs)=>(match zBh S.A Ts cs,zOu S r with | some (o,p),some (o',ps)=>some (o∧o',.agg p :: ps) | _,_=>none)
   | _=>none)
  | _=>none
 | .ar t T :: r=>match lk S.Lp t with
  | some (.sl h)=>(match zDF S.A (.list T) (.sl h),zOu S r with | some (o,p),some (o',ps)=>some (o∧o',p :: ps) | _,_=>none)
  | _=>none
 | .bl t :: r=>match lk S.Lp t with
  | some (.ptr h 0)=>(match lk S.A h,zOu S r with | some (.bld _ _ l),some (o',ps)=>some (o',.str l :: ps) | _,_=>none)
  | _=>none
 | .ax t :: r=>match lk S.Lp t with
  | some (.ptr h 0)=>(match lk S.A h,zOu S r with | some (.abx _ _ es),some (o',ps)=>some (o',.list es :: ps) | _,_=>none)
  | _=>none
 | .cu t :: r=>match lk S.Lp t with
  | some (.sl h)=>(match lk S.A h,zOu S r with | some (.arr (.cs k) _ _ _),some (o',ps)=>some (o',.int .i64 k :: ps) | some (.arr .dp _ _ _),some (o',ps)=>some (o',.int .i64 0 :: ps) | _,_=>none)
  | _=>none
mutual
def hsV:SV→List Nat
 | .sl h=>[h]
 | .ptr h _=>[h]
 | .elp h _ _ _=>[h]
 | .agg xs=>zds xs
 | .tup xs=>zds xs
 | .fn _ xs=>zds xs
 | _=>[]
def zds:List SV→List Nat
 | []=>[]
 | x :: xs=>hsV x++zds xs
end
def zKS:List It→List Nat
 | []=>[]
 | .sl t _ _ :: r=>t :: zKS r
 | .nb t _ _ :: r=>t :: zKS r
 | _ :: r=>zKS r
def zDU(S:St):List It→List Nat
 | []=>[]
 | .bx t _ :: r=>match lk S.Lp t with | some (.ptr h _)=>h :: zDU S r | _=>zDU S r
 | .bs t _ :: r=>match lk S.Lp t with | some (.ptr h _)=>h :: zDU S r | _=>zDU S r
 | .fx t _ :: r=>match lk S.Lp t with | some (.ptr h _)=>h :: zDU S r | _=>zDU S r
 | .ar t _ :: r=>match lk S.Lp t with | some (.sl h)=>h :: zDU S r | _=>zDU S r
 | .bl t :: r=>match lk S.Lp t with | some (.ptr h _)=>h :: zDU S r | _=>zDU S r
 | .ax t :: r=>match lk S.Lp t with | some (.ptr h _)=>h :: zDU S r | _=>zDU S r
 | .cu t :: r=>match lk S.Lp t with | some (.sl h)=>h :: zDU S r | _=>zDU S r
 | _ :: r=>zDU S r
def zMt(ms:List Nat):List (Nat × SV)→List (Nat × SV)
 | []=>[]
 | (t,v) :: r=>if zGg ms t then zMt ms r else (t,v) :: zMt ms r
def hsL:List (Nat × SV)→List Nat
 | []=>[]
 | (_,v) :: r=>hsV v++hsL r
def hsA(A:Hp)(bs:List Nat):List Nat→List Nat
 | []=>[]
 | h :: r=>(if zGg bs h then [] else match lk A h with | some (.box _ _ cs)=>zds cs | _=>[])++hsA A bs r
def zZT(R:List Nat):List Nat→List Nat
 | []=>[]
 | r :: l=>if zGg R r then r :: zZT R l else zZT R l
def gcH(R:List Nat):HL→HL
 | .arr (.vw rs) T es _=>.arr (.vw (zZT R rs)) T es .no
 | .arr o T es _=>.arr o T es .no
 | x=>x
def gcA(R bs:List Nat):Hp→Hp
 | []=>[]
 | (h,x) :: r=>if zGg R h&&!zGg bs h then (match x with | .dead=>gcA R bs r | x=>(h,gcH R x) :: gcA R bs r) else gcA R bs r
def zTc(S:St):List It→List Nat
 | []=>[]
 | .bs t _ :: r=>(match lk S.Lp t with | some (.ptr h _)=>(match lk S.A h with | some (.box _ _ cs)=>zAZ cs | _=>[]) | _=>[])++zTc S r
 | _ :: r=>zTc S r
def zYJ(S:St)(its:List It):List Nat:=
 zTc S its++hsL (zMt (zKS its) S.Lp)++hsA S.A (zDU S its) (hsL (zMt (zKS its) S.Lp))++hsA S.A (zDU S its) (hsA S.A (zDU S its) (hsL (zMt (zKS its) S.Lp)))
def zOw(S0 T:St):List It→List PV→St
 | .sl t o ty :: r,p :: ps=>zOw S0 ⟨T.Lp++[(t,(zBg o noP 0 T.n ty p).1)],[],(zBg o noP 0 T.n ty p).2.1++T.A,(zBg o noP 0 T.n ty p).2.2⟩ r ps
 | .nb t bt Ts :: r,p :: ps=>zOw S0 ⟨T.Lp++[(t,.ptr (zU .dp noP 0 T.n Ts p.A).2.2 0)],[],((zU .dp noP 0 T.n Ts p.A).2.2,.box true bt (zU .dp noP 0 T.n Ts p.A).1) :: ((zU .dp noP 0 T.n Ts p.A).2.1++T.A),(zU .dp noP 0 T.n Ts p.A).2.2+1⟩ r ps
 | .bx t Ts :: r,p :: ps=>match lk S0.Lp t with
  | some (.ptr h _)=>(match lk S0.A h with
   | some (.box ow bt _)=>zOw S0 ⟨T.Lp,[],(h,.box ow bt (zU .dp noP 0 T.n Ts p.A).1) :: ((zU .dp noP 0 T.n Ts p.A).2.1++T.A),(zU .dp noP 0 T.n Ts p.A).2.2⟩ r ps
   | _=>T)
  | _=>T
 | .fx t Ts :: r,p :: ps=>match lk S0.Lp t with
  | some (.ptr h _)=>(match lk S0.A h with
   | some (.box ow bt _)=>zOw S0 ⟨T.Lp,[],(h,.box ow bt (zU (.vw []) noP 0 T.n Ts p.A).1) :: ((zU (.vw []) noP 0 T.n Ts p.A).2.1++T.A),(zU (.vw []) noP 0 T.n Ts p.A).2.2⟩ r ps
   | _=>T)
  | _=>T
 | .bs t Ts :: r,p :: ps=>match lk S0.Lp t with
  | some (.ptr h _)=>(match lk S0.A h with
   | some (.box ow bt cs)=>zOw S0 ⟨T.Lp,[],(h,.box ow bt (zKQ Ts cs p.A)) :: T.A,T.n⟩ r ps
   | _=>T)
  | _=>T
 | .ar t E :: r,p :: ps=>match lk S0.Lp t with
  | some (.sl h)=>zOw S0 ⟨T.Lp,[],(h,.arr .dp E p.L .no) :: T.A,T.n⟩ r ps
  | _=>T
 | .bl t :: r,p :: ps=>match lk S0.Lp t with
  | some (.ptr h _)=>(match lk S0.A h with
   | some (.bld B e _)=>zOw S0 ⟨T.Lp,[],(h,.bld B e p.S) :: T.A,T.n⟩ r ps
   | _=>T)
  | _=>T
 | .ax t :: r,p :: ps=>match lk S0.Lp t with
  | some (.ptr h _)=>(match lk S0.A h with
   | some (.abx ow E _)=>zOw S0 ⟨T.Lp,[],(h,.abx ow E p.L) :: T.A,T.n⟩ r ps
   | _=>T)
  | _=>T
 | .cu t :: r,p :: ps=>match lk S0.Lp t with
  | some (.sl h)=>(match lk S0.A h with
   | some (.arr _ E es _)=>zOw S0 ⟨T.Lp,[],(h,.arr (.cs p.I.toNat) E es .no) :: T.A,T.n⟩ r ps
   | _=>T)
  | _=>T
 | _,_=>T
def zbq(S:St)(its:List It)(ps:List PV):St:=
 zOw S ⟨zMt (zKS its) S.Lp,[],gcA (zYJ S its) (zDU S its) S.A,S.n⟩ its ps
mutual
def mr:SV→SV→List (Nat × Nat)
 | .sl h',.sl h=>if h'=h then [] else [(h',h)]
 | .agg xs,.agg ys=>mrs xs ys
 | .tup xs,.tup ys=>mrs xs ys
 | _,_=>[]
def mrs:List SV→List SV→List (Nat × Nat)
 | x :: xs,y :: ys=>mr x y++mrs xs ys
 | _,_=>[]
end
def zOv(T S:St):List It→List (Nat × Nat)
 | []=>[]
 | .sl t _ _ :: r=>(match lk T.Lp t,lk S.Lp t with | some x,some y=>mr x y | _,_=>[])++zOv T S r
 | .bx t _ :: r=>(match lk T.Lp t with | some (.ptr h _)=>(match lk T.A h,lk S.A h with | some (.box _ _ xs),some (.box _ _ ys)=>mrs xs ys | _,_=>[]) | _=>[])++zOv T S r
 | .fx t _ :: r=>(match lk T.Lp t with | some (.ptr h _)=>(match lk T.A h,lk S.A h with | some (.box _ _ xs),some (.box _ _ ys)=>mrs xs ys | _,_=>[]) | _=>[])++zOv T S r
 | .nb t _ _ :: r=>(match lk T.Lp t,lk S.Lp t with | some (.ptr h _),some (.ptr h' _)=>(match lk T.A h,lk S.A h' with | some (.box _ _ xs),some (.box _ _ ys)=>(if h=h' then [] else [(h,h')])++mrs xs ys | _,_=>[]) | _,_=>[])++zOv T S r
 | .bs _ _ :: r=>zOv T S r
 | .ar _ _ :: r=>zOv T S r
 | .bl _ :: r=>zOv T S r
 | .ax _ :: r=>zOv T S r
 | .cu _ :: r=>zOv T S r
def zbr(keep:List Nat)(n0:Nat)(S:St)(its:List It)(Φ:List PV→Prop)(S':St):Prop:=
 match zOu S' its with
 | some (o,ps)=>o∧Φ ps∧ent keep n0 (zOv (zbq S its ps) S' its) S' (zbq S its ps)
 | none=>False
theorem zUt{keep:List Nat}{n0:Nat}{S S':St}{its:List It}{Φ:List PV→Prop}(h:zbr keep n0 S its Φ S'):∃ps ρ,Φ ps∧ent keep n0 ρ S' (zbq S its ps):=by
 unfold zbr at h
 split at h
 ·exact⟨_,_,h.2.1,h.2.2⟩
 ·exact h.elim
structure zNn (E:Env) (N:Nat) (keep:List Nat) (n0:Nat) (fin:St→Prop) (W:List KI→St→Prop):Prop where
 vc:∀(pls:List (Nat × List Nat × Pl)) (k:List KI) (S:St),vcK E N keep fin W pls [] k S→W k S
 loop:∀(c:Code) (k:List KI) (S:St) (Y:Type) (st:Y→St) (Φ:Y→Prop) (μ:Y→Nat),(∃y ρ,Φ y∧ent keep n0 ρ S (st y)) →
  (∀y,Φ y→W (.code c :: .post (fun S'=>∃y' ρ,Φ y'∧μ y' < μ y∧ent keep n0 ρ S' (st y')) :: k) (st y))→W (.code (.loop c) :: k) S
 loopS:∀(c:Code) (k:List KI) (S:St) (its:List It) (Φ:List PV→Prop) (μ:List PV→Nat),zbr keep n0 S its Φ S →
  (∀ys,Φ ys→W (.code c :: .post (zbr keep n0 S its fun ps=>Φ ps∧μ ps < μ ys) :: k) (zbq S its ys))→W (.code (.loop c) :: k) S
 cutS:∀(l k:List KI) (S:St) (its:List It) (Φ:List PV→Prop),W (l++.post (zbr keep n0 S its Φ) :: k) S→(∀ys,Φ ys→W k (zbq S its ys))→W (l++k) S
 cut:∀(l k:List KI) (S:St) (p:St→Prop),W (l++.post p :: k) S→(∀S',p S'→W k S')→W (l++k) S
 ent:∀(k:List KI) (S T:St) (ρ:List (Nat × Nat)),ent keep n0 ρ S T→W k T→W k S
 draw:∀(id:Nat) (ops:Array Oper) (k:List KI) (S:St),(∀l∈zdo ops.toList ops.toList.length (List.replicate ops.toList.length false),W (.run ops.toList (zKL ops.toList l) :: k) { S with Lt:=[] }) →
  W (.code (.region id ops true) :: k) S
theorem zNB{C:Cx}(hC:C.Ok):zNn C.E C.N C.keep C.n0 C.fin (WP C):=by
 refine⟨fun pls k S h=>zW9 hC (fun _ _ h=>h) _ k S (Nat.le_refl _) h,fun c k S Y st Φ μ h0 hr=>zVO st Φ μ h0 hr,fun c k S its Φ μ h0 hr=>?_,fun l k S its Φ h1 h2=>?_,fun l k S p h1 h2=>zad l h1 h2,fun k S T ρ h h1=>zac h h1,
  fun id ops k S h=>za2 hC h⟩
 ·refine zVO (Y:=List PV) (zbq S its) Φ μ (zUt h0) fun y hy=>?_
  have h1:=hr y hy
  intro a w hat
  have:=h1 a w hat
  refine zNt (k1:=.post (zbr C.keep C.n0 S its fun ps=>Φ ps∧μ ps < μ y) :: k) ?_ [.code c] _ _ _ this
  intro e a w hx
  cases e with
  | normal=>
   obtain⟨S',h,hp⟩:=hx
   obtain⟨ps,ρ,q1,q2⟩:=zUt hp
   exact⟨S',h,ps,ρ,q1.1,q1.2,q2⟩
  | _=>exact hx
 ·refine zad l h1 fun S' hS'=>?_
  obtain⟨ps,ρ,q1,q2⟩:=zUt hS'
  exact zac q2 (h2 ps q1)
end
section
variable [zS]
def zEl(n:Nat):PTy→PV→SV × Hp × Nat
 | .box ts,p=>(.ptr (zU (.vw []) noP 0 n ts p.A).2.2 0,((zU (.vw []) noP 0 n ts p.A).2.2,.box false 0 (zU (.vw []) noP 0 n ts p.A).1) :: (zU (.vw []) noP 0 n ts p.A).2.1,(zU (.vw []) noP 0 n ts p.A).2.2+1)
 | .abx T,p=>(.ptr n 0,[(n,.abx false T p.L)],n+1)
 | .agg ts,p=>(.agg (zU (.vw []) noP 0 n ts p.A).1,(zU (.vw []) noP 0 n ts p.A).2.1,(zU (.vw []) noP 0 n ts p.A).2.2)
 | T,p=>((zU (.vw []) noP 0 n [T] [p]).1.headD .nilp,(zU (.vw []) noP 0 n [T] [p]).2.1,(zU (.vw []) noP 0 n [T] [p]).2.2)
def zFb(n:Nat):List PTy→List PV→List SV × Hp × Nat
 | t :: ts,p :: ps=>((zEl n t p).1 :: (zFb (zEl n t p).2.2 ts ps).1,(zFb (zEl n t p).2.2 ts ps).2.1++(zEl n t p).2.1,(zFb (zEl n t p).2.2 ts ps).2.2)
 | _,_=>([],[],n)
def zL1(n:Nat):PTy→PV→SV × Hp × Nat
 | .fn f ts,p=>(.fn f (zFb n ts p.A).1,(zFb n ts p.A).2.1,(zFb n ts p.A).2.2)
 | T,p=>zEl n T p
def zL0(n:Nat):PTy→PV→SV × Hp × Nat
 | .box ts,p=>(.ptr (zU .dp noP 0 n ts p.A).2.2 0,((zU .dp noP 0 n ts p.A).2.2,.box true 0 (zU .dp noP 0 n ts p.A).1) :: (zU .dp noP 0 n ts p.A).2.1,(zU .dp noP 0 n ts p.A).2.2+1)
 | .abx T,p=>(.ptr n 0,[(n,.abx true T p.L)],n+1)
 | _,_=>(.nilp,[],n)
def zOk(n:Nat):PTy→PV→SV × Hp × Nat
 | .box ts,p=>(.ptr (zU (.vw []) noP 0 n ts p.A).2.2 0,((zU (.vw []) noP 0 n ts p.A).2.2,.box true 0 (zU (.vw []) noP 0 n ts p.A).1) :: (zU (.vw []) noP 0 n ts p.A).2.1,(zU (.vw []) noP 0 n ts p.A).2.2+1)
 | _,_=>(.nilp,[],n)
def zLI(n:Nat):Md→PTy→PV→SV × Hp × Nat
 | .rd,T,p=>zL1 n T p
 | .mt,T,p=>zBg .dp noP 0 n T p
 | .ow,T,p=>zBg .dp noP 0 n T p
 | .bx,T,p=>zL0 n T p
 | .bs,T,p=>zOk n T p
def zAh(n:Nat):List (Md × PTy)→List PV→List SV × Hp × Nat
 | (m,t) :: ts,p :: ps=>((zLI n m t p).1 :: (zAh (zLI n m t p).2.2 ts ps).1,(zAh (zLI n m t p).2.2 ts ps).2.1++(zLI n m t p).2.1,(zAh (zLI n m t p).2.2 ts ps).2.2)
 | _,_=>([],[],n)
mutual
def Ty:PTy→PV→Prop
 | .int k,p=>∃n,p=.int k n∧inR k n
 | .bool,p=>∃b,p=.bool b
 | .str,p=>∃l,p=.str l∧l.length≤LIM
 | .list T,p=>∃es,p=.list es∧es.length≤LIM∧∀e∈es,Ty T e
 | .agg ts,p=>∃qs,p=.agg qs∧Tys ts qs
 | .box ts,p=>∃qs,p=.agg qs∧Tys ts qs
 | .abx T,p=>∃es,p=.list es∧∀e∈es,Ty T e
 | .fn _ ts,p=>∃qs,p=.agg qs∧Tys ts qs
 | .opq,_=>True
def Tys:List PTy→List PV→Prop
 | [],ps=>ps=[]
 | t :: ts,ps=>∃p qs,ps=p :: qs∧Ty t p∧Tys ts qs
end
def TyA:List (Md × PTy)→List PV→Prop
 | [],ps=>ps=[]
 | (_,t) :: ts,ps=>∃p qs,ps=p :: qs∧Ty t p∧TyA ts qs
section
variable {P:Program} {E:Env} {N:Nat} {w0:World} {X F:List Nat} {S:St} {β:Nat→GV} {ϕ:Nat→List Nat} {a:Act} {w w':World} {o:Oper} {R:RR} {A:Hp} {B:Nat}
theorem zRo:∀{ts ts':List PTy} {ps ps':List PV},ts.length=ps.length→(Tys (ts++ts') (ps++ps')↔Tys ts ps∧Tys ts' ps')
 | [],ts',[],ps',_=>by simp[Tys]
 | [],ts',p :: ps,ps',h=>by simp at h
 | t :: ts,ts',[],ps',h=>by simp at h
 | t :: ts,ts',p :: ps,ps',h=>by
  have ih:=zRo (ts:=ts) (ts':=ts') (ps:=ps) (ps':=ps') (by simpa using h)
  simp only[List.cons_append,Tys]
  constructor
  ·rintro⟨_,_,e,h1,h2⟩
   cases e
   obtain⟨h3,h4⟩:=ih.1 h2
   exact⟨⟨_,_,rfl,h1,h3⟩,h4⟩
  ·rintro⟨⟨_,_,e,h1,h2⟩,h3⟩
   cases e
   exact⟨_,_,rfl,h1,ih.2 ⟨h2,h3⟩⟩
theorem zQp{T:PTy}(hT:∀t∈T.leaves,t.leaves=[t]):∀(es:List PV),(∀e∈es,Shp T e)→Tys (yf T es.length) (yb es)→∀e∈es,Ty T e
 | [],_,_,e,he=>by cases he
 | p :: es,hs,h,e,he=>by
  have hs1:=hs p (by simp)
  have e1:yf T (p :: es).length=T.leaves++yf T es.length:=by simp[yf,List.replicate_succ]
  have e2:yb (p :: es)=p.leaves++yb es:=by simp[yb]
  have hlen:T.leaves.length=p.leaves.length:=by
   cases T<;>simp only[Shp] at hs1
   case agg ts=>obtain⟨qs,rfl,hq⟩:=hs1;simp[PTy.leaves,PV.leaves,hq]
   all_goals (cases p<;>simp[PTy.leaves,PV.leaves] at hs1 ⊢)
  rw[e1,e2,zRo hlen] at h
  rcases List.mem_cons.1 he with rfl | he
  ·have h1:=h.1
   cases T<;>simp only[Shp] at hs1
   case agg ts=>obtain⟨qs,rfl,hq⟩:=hs1;exact⟨qs,rfl,h1⟩
   all_goals (cases e<;>simp only[PTy.leaves,PV.leaves,Tys] at h1 hs1<;>first | (obtain⟨_,_,e,h1,_⟩:=h1;cases e;exact h1) | exact absurd rfl (hs1 _))
  ·exact zQp hT es (fun e he=>hs e (by simp[he])) h.2 e he
theorem Lv.tys{w:World}{Ts:List PTy}{ps:List PV}{vs:List Value}{fp:List Nat}(h:Lv w Ts ps vs fp):Tys Ts ps:=by
 induction h with
 | nil=>simp[Tys]
 | int h1 _ ih=>exact⟨_,_,rfl,⟨_,rfl,h1⟩,ih⟩
 | bool _ ih=>exact⟨_,_,rfl,⟨_,rfl⟩,ih⟩
 | str h1 _ ih=>exact⟨_,_,rfl,⟨_,rfl,h1⟩,ih⟩
 | empty _ ih=>exact⟨_,_,rfl,⟨[],rfl,by simp,by simp⟩,ih⟩
 | @list T es b o cap c t fr cs f1 Ts ps vs fp hb hs hl hv hc _ ih1 ih2=>
  refine⟨_,_,rfl,⟨es,rfl,hl.1,?_⟩,ih2⟩
  intro e he
  have hT:∀t∈T.leaves,t.leaves=[t]:=by
   intro t ht
   refine hv.ty_of t ?_
   simp only[yf,List.mem_flatten,List.mem_replicate]
   exact⟨T.leaves,⟨(by intro h0;have:=List.length_eq_zero_iff.1 h0;subst this;cases he),rfl⟩,ht⟩
  exact zQp hT es hs ih1 e he
theorem zVs{w:World}{T:PTy}{es:List PV}{cs:List Value}{f:List Nat}(hT:zJS T=true)(hs:∀e∈es,Shp T e)(h:Lv w (yf T es.length) (yb es) cs f):∀e∈es,Ty T e:=by
 intro e he
 have hT:∀t∈T.leaves,t.leaves=[t]:=by
  intro t ht
  refine h.ty_of t ?_
  simp only[yf,List.mem_flatten,List.mem_replicate]
  exact⟨T.leaves,⟨(by intro h0;have:=List.length_eq_zero_iff.1 h0;subst this;cases he),rfl⟩,ht⟩
 exact zQp hT es hs h.tys e he
theorem zab.ty{T:PTy}{p:PV}{v:Value}{f fl:List Nat}(h:zab w T p v f fl):Ty T p:=by
 have leaf:Lv w [T] [p] [v] f→Ty T p:=fun hL=>by
  have:=hL.tys
  simp only[Tys] at this
  obtain⟨_,_,e,h1,_⟩:=this
  cases e
  exact h1
 cases T with
 | agg ts=>obtain⟨qs,cs,rfl,_,hL,_⟩:=h;exact⟨qs,rfl,hL.tys⟩
 | box ts=>obtain⟨qs,cs,b,t,pre,post,rfl,_,_,hL,_⟩:=h;exact⟨qs,rfl,hL.tys⟩
 | abx T=>obtain⟨es,b,t,c,rfl,_,_,h1,h2,h3,_⟩:=h;exact⟨es,rfl,zVs h1 h2 h3⟩
 | fn _ _=>exact h.elim
 | _=>exact leaf h.1
theorem zUC.tys{ts:List PTy}{ps:List PV}{vs:List Value}{f fl:List Nat}(h:zUC w ts ps vs f fl):Tys ts ps:=by
 induction h with
 | nil=>simp[Tys]
 | cons h1 _ ih=>exact⟨_,_,rfl,h1.ty,ih⟩
theorem zY3.ty{T:PTy}{p:PV}{v:Value}{f fl:List Nat}(h:zY3 w T p v f fl):Ty T p:=by
 cases T with
 | fn g ts=>obtain⟨qs,cs,rfl,_,hL⟩:=h;exact⟨qs,rfl,hL.tys⟩
 | _=>exact zab.ty h
theorem zY9.ty{T:PTy}{p:PV}{v:Value}{f:List Nat}(h:zY9 w T p v f):Ty T p:=by
 cases T with
 | agg ts=>obtain⟨qs,cs,fs,rfl,_,hL,_⟩:=h;exact⟨qs,rfl,hL.lv.tys⟩
 | list T=>
  obtain⟨es,rfl,hO⟩:=h
  have:=hO.lv.tys
  simp only[Tys] at this
  obtain⟨_,_,e,h1,_⟩:=this
  cases e
  exact h1
 | _=>exact h.elim
theorem zeR.ty{T:PTy}{p:PV}{v:Value}{f:List Nat}(h:zeR w T p v f):Ty T p:=by
 cases T with
 | box ts=>obtain⟨qs,cs,fs,b,t,pre,post,rfl,_,_,hL,_⟩:=h;exact⟨qs,rfl,hL.lv.tys⟩
 | abx T=>obtain⟨es,b,t,c,rfl,_,_,h1,h2,h3,_⟩:=h;exact⟨es,rfl,zVs h1 h2 h3⟩
 | _=>exact h.elim
theorem zgi.ty{T:PTy}{p:PV}{v:Value}{f:List Nat}{b:Nat}(h:zgi w T p v f b):Ty T p:=by
 cases T with
 | box ts=>obtain⟨qs,cs,t,pre,post,rfl,_,_,hL⟩:=h;exact⟨qs,rfl,hL.tys⟩
 | _=>exact h.elim
theorem zDt.ty{ts:List (Md × PTy)}{ps:List PV}{vs:List Value}{f fl ms:List Nat}(h:zDt w ts ps vs f fl ms):TyA ts ps:=by
 induction h with
 | nil=>simp[TyA]
 | rd h1 _ ih=>exact⟨_,_,rfl,h1.ty,ih⟩
 | mt h1 _ ih=>exact⟨_,_,rfl,h1.ty,ih⟩
 | ow h1 _ ih=>exact⟨_,_,rfl,h1.ty,ih⟩
 | bx h1 _ ih=>exact⟨_,_,rfl,h1.ty,ih⟩
 | bs h1 _ ih=>exact⟨_,_,rfl,h1.ty,ih⟩
theorem zJ6{n:Nat}{hl0:HL}{f G:List Nat}(hb:Bd n β A)(h:zCi A ϕ G)(hf:∀b∈f,b ∉ G):zCi ((n,hl0) :: A) (upd ϕ n f) G:=
 zHP h (fun i=>zLd A i) hf
theorem zW8{f:List Nat}{n:Nat}(hp:yO B X F A β ϕ w)(hB:w.heap.size=B)(hf:∀b∈f,b < w.heap.size)(hX:∀b∈f,b ∉ X)(hF:∀b∈f,b∈F):zFR B F A ϕ n f []:=by
 refine⟨?_,fun b hb=>.inl (hF b hb),by simp,by simp⟩
 intro i hl hi _ b hb hm
 rcases hp.own i hl hi b hb with h | h
 ·exact hX b hm h
 ·have:=hf b hm;omega
theorem zNY:∀(Ts:List PTy) (ps:List PV) (vs:List Value) (f G:List Nat) (j n:Nat) (A:Hp) (β:Nat→GV) (ϕ:Nat→List Nat),Lv w Ts ps vs f→yO B X F A β ϕ w→Bd n β A→w.heap.size=B→(∀b∈f,b ∉ X)→(∀b∈f,b∈F)→zCi A ϕ G→(∀b∈f,b ∉ G) →
  ∃β' ϕ',zVI B X F ((zU (.vw []) noP j n Ts ps).2.1++A) β β' ϕ ϕ' w n (zU (.vw []) noP j n Ts ps).2.2 (zU (.vw []) noP j n Ts ps).1 vs G:=by
 intro Ts
 induction Ts with
 | nil=>
  intro ps vs f G j n A β ϕ hL hp hb hB hX hF hG hf
  cases hL
  exact⟨β,ϕ,hp,hb,fun _ _=>rfl,fun _ _=>rfl,rfl,trivial,trivial,Nat.le_refl _,hG⟩
 | cons T Ts ih=>
  intro ps vs f G j n A β ϕ hL hp hb hB hX hF hG hf
  cases ps with
  | nil=>have:=hL.lens.1;simp at this
  | cons p ps=>
   obtain⟨v,vs',f1,f2,rfl,rfl,h1,h2⟩:=hL.cons_inv
   have scal:∀(x:SV),(zU (.vw []) noP j n (T :: Ts) (p :: ps))=(x :: (zU (.vw []) noP (j+1) n Ts ps).1,(zU (.vw []) noP (j+1) n Ts ps).2.1,(zU (.vw []) noP (j+1) n Ts ps).2.2)→(∀β,SV.val β x=v)→(∀m,SV.lt m x)→(∀β,SV.ok β x) →
     ∃β' ϕ',zVI B X F ((zU (.vw []) noP j n (T :: Ts) (p :: ps)).2.1++A) β β' ϕ ϕ' w n (zU (.vw []) noP j n (T :: Ts) (p :: ps)).2.2 (zU (.vw []) noP j n (T :: Ts) (p :: ps)).1 (v :: vs') G:=by
    intro x he hx hlt hok
    obtain⟨β',ϕ',a1,a2,a3,a4,a5,a6,a7,a8,a9⟩:=ih ps vs' f2 G (j+1) n A β ϕ h2 hp hb hB (fun b hb=>hX b (by simp[hb])) (fun b hb=>hF b (by simp[hb])) hG (fun b hb=>hf b (by simp[hb]))
    rw[he]
    exact⟨β',ϕ',a1,a2,a3,a4,by simp[SV.vals,hx,a5],⟨hlt _,a6⟩,⟨hok _,a7⟩,a8,a9⟩
   cases T with
   | int k=>
    obtain⟨m,rfl,rfl,hr,rfl⟩:=h1.int_inv
    exact scal (.int k m) rfl (fun _=>rfl) (fun _=>trivial) (fun _=>hr)
   | bool=>
    obtain⟨m,rfl,rfl,rfl⟩:=h1.bool_inv
    exact scal (.bool m) rfl (fun _=>rfl) (fun _=>trivial) (fun _=>trivial)
   | str=>
    obtain⟨m,rfl,rfl,hr,rfl⟩:=h1.str_inv
    exact scal (.str m) rfl (fun _=>rfl) (fun _=>trivial) (fun _=>hr)
   | list T=>
    obtain⟨es,rfl⟩:∃es,p=.list es:=by cases h1<;>exact⟨_,rfl⟩
    have hv1:zFR B F A ϕ n f1 []:=zW8 hp hB h1.inb (fun b hb=>hX b (by simp[hb])) (fun b hb=>hF b (by simp[hb]))
    obtain⟨c1,c2⟩:=zSj (T:=T) (es:=es) (v:=v) (p:=.no) hp hb h1 hv1 trivial
    have hG':=zJ6 (hl0:=.arr (.vw []) T es .no) hb hG (fun b hb=>hf b (by simp[hb]):∀b∈f1,b ∉ G)
    obtain⟨β',ϕ',a1,a2,a3,a4,a5,a6,a7,a8,a9⟩:=ih ps vs' f2 G (j+1) (n+1) _ _ _ h2 c1 c2 hB (fun b hb=>hX b (by simp[hb])) (fun b hb=>hF b (by simp[hb])) hG' (fun b hb=>hf b (by simp[hb]))
    refine⟨β',ϕ',?_,?_,fun k hk=>(a3 k (by omega)).trans (zBS _ _ _ hk),fun k hk=>(a4 k (by omega)).trans (zBS _ _ _ hk),?_,?_,?_,?_,?_⟩
    ·simpa[zU,noP,PV.L,List.append_assoc] using a1
    ·simpa[zU,noP,PV.L,List.append_assoc] using a2
    ·simp only[zU,SV.vals,SV.val,a5,a3 n (by omega),zA0];rfl
    ·exact⟨by simp only[SV.lt,zU];omega,a6⟩
    ·exact⟨trivial,a7⟩
    ·simp only[zU];omega
    ·simpa[zU,noP,PV.L,List.append_assoc] using a9
   | agg ts=>cases h1
   | box ts=>cases h1
   | abx t=>cases h1
   | fn f ts=>cases h1
   | opq=>cases h1
theorem zTe{T:PTy}{p:PV}{v:Value}{f fl G:List Nat}{n:Nat}(hL:zab w T p v f fl)(hp:yO B X F A β ϕ w)(hb:Bd n β A)(hB:w.heap.size=B)(hX:∀b∈f,b ∉ X)(hF:∀b∈fl,b∈F)(hG:zCi A ϕ G)(hf:∀b∈f,b ∉ G) :
  ∃β' ϕ',zVI B X F ((zEl n T p).2.1++A) β β' ϕ ϕ' w n (zEl n T p).2.2 [(zEl n T p).1] [v] G:=by
 have leaf:(zEl n T p=((zU (.vw []) noP 0 n [T] [p]).1.headD .nilp,(zU (.vw []) noP 0 n [T] [p]).2.1,(zU (.vw []) noP 0 n [T] [p]).2.2))→Lv w [T] [p] [v] f→fl=f →
   ∃β' ϕ',zVI B X F ((zEl n T p).2.1++A) β β' ϕ ϕ' w n (zEl n T p).2.2 [(zEl n T p).1] [v] G:=by
  intro he hL' hfl
  subst hfl
  obtain⟨β',ϕ',a1,a2,a3,a4,a5,a6,a7,a8,a9⟩:=zNY [T] [p] [v] fl G 0 n A β ϕ hL' hp hb hB hX hF hG hf
  have hx:(zU (.vw []) noP 0 n [T] [p]).1=[(zU (.vw []) noP 0 n [T] [p]).1.headD .nilp]:=by cases T<;>simp[zU]
  rw[he]
  rw[hx] at a5 a6 a7
  exact⟨β',ϕ',a1,a2,a3,a4,a5,a6,a7,a8,a9⟩
 cases T with
 | agg ts=>
  obtain⟨qs,cs,rfl,rfl,hL,rfl⟩:=hL
  obtain⟨β',ϕ',a1,a2,a3,a4,a5,a6,a7,a8,a9⟩:=zNY ts qs cs fl G 0 n A β ϕ hL hp hb hB hX hF hG hf
  exact⟨β',ϕ',a1,a2,a3,a4,by simp[zEl,SV.vals,SV.val,PV.A,a5],⟨a6,trivial⟩,⟨a7,trivial⟩,a8,a9⟩
 | box ts=>
  obtain⟨qs,cs,b,t,pre,post,rfl,rfl,hblk,hL,rfl⟩:=hL
  obtain⟨β',ϕ',a1,a2,a3,a4,a5,a6,a7,a8,a9⟩:=zNY ts qs cs fl G 0 n A β ϕ hL hp hb hB (fun c hc=>hX c (by simp[hc])) hF hG (fun c hc=>hf c (by simp[hc]))
  have hbb:b < w.heap.size:=(Array.getElem?_eq_some_iff.1 hblk).1
  have hbc:∀k,k < (zU (.vw []) noP 0 n ts qs).2.2→upd β' (zU (.vw []) noP 0 n ts qs).2.2 ⟨.pointer (some ⟨b,pre.length,none⟩),pre,post⟩ k=β' k:=fun k hk=>zBS _ _ _ hk
  have hadd:=a1.add (n:=(zU (.vw []) noP 0 n ts qs).2.2) (hl0:=.box false 0 (zU (.vw []) noP 0 n ts qs).1) (g:=⟨.pointer (some ⟨b,pre.length,none⟩),pre,post⟩) (f:=[b]) a2 rfl
   ⟨b,t,rfl,rfl,by rw[SV.vals_congr hbc _ a6,a5];exact hblk⟩ (by simp[zq]) (fun h=>h.elim) trivial (by intro i hl hi hd c hc hm;simp[zq] at hm)
   (fun i hl hi _ c hc hm=>by
    simp only[List.mem_singleton] at hm
    subst hm
    rcases a1.own i hl hi c hc with h | h
    ·exact hX c (by simp) h
    ·omega) trivial (by simp[yc]) (by simp[yc])
  refine⟨_,_,hadd,zFO a2 ⟨SV.lts_mono (Nat.le_succ (zU (.vw []) noP 0 n ts qs).2.2) _ a6,SV.oks_congr hbc _ a6 a7⟩,fun k hk=>(zBS _ _ _ (show k < (zU (.vw []) noP 0 n ts qs).2.2 by omega)).trans (a3 k hk),fun k hk=>(zBS _ _ _ (show k < (zU (.vw []) noP 0 n ts qs).2.2 by omega)).trans (a4 k hk),?_,?_,?_,?_,?_⟩
  ·simp[zEl,SV.vals,SV.val,PV.A,zA0]
  ·exact⟨by simp[zEl,SV.lt,PV.A],trivial⟩
  ·exact⟨⟨b,pre.length,by simp[PV.A,zA0]⟩,trivial⟩
  ·show n≤(zU (.vw []) noP 0 n ts qs).2.2+1;omega
  ·exact zJ6 a2 a9 (fun c hc=>by simp only[List.mem_singleton] at hc;subst hc;exact hf c (by simp))
 | abx T=>
  obtain⟨es,b,t,c,rfl,rfl,hblk,h1,h2,h3,rfl,rfl⟩:=hL
  have hbb:b < w.heap.size:=(Array.getElem?_eq_some_iff.1 hblk).1
  have hadd:=hp.add (n:=n) (hl0:=.abx false T es) (g:=⟨.pointer (some ⟨b,0,none⟩),[],[]⟩) (f:=[b]) hb rfl
   ⟨h1,h2,b,t,c,rfl,rfl,hblk,h3⟩ (by simp[zq]) (fun h=>h.elim) trivial (by intro i hl hi hd c hc hm;simp[zq] at hm)
   (fun i hl hi _ c hc hm=>by
    simp only[List.mem_singleton] at hm
    subst hm
    rcases hp.own i hl hi c hc with h | h
    ·exact hX c (by simp) h
    ·omega) trivial (by simp[yc]) (by simp[yc])
  refine⟨_,_,hadd,zFO hb trivial,fun k hk=>zBS _ _ _ hk,fun k hk=>zBS _ _ _ hk,?_,?_,?_,?_,?_⟩
  ·simp[zEl,SV.vals,SV.val,zA0]
  ·exact⟨by simp[zEl,SV.lt],trivial⟩
  ·exact⟨⟨b,0,by simp[zA0]⟩,trivial⟩
  ·show n≤n+1;omega
  ·exact zJ6 hb hG (fun c hc=>by simp only[List.mem_singleton] at hc;subst hc;exact hf c (by simp))
 | fn g ts=>exact hL.elim
 | int k=>exact leaf rfl hL.1 hL.2
 | bool=>exact leaf rfl hL.1 hL.2
 | str=>exact leaf rfl hL.1 hL.2
 | list T=>exact leaf rfl hL.1 hL.2
 | opq=>exact leaf rfl hL.1 hL.2
theorem zWh:∀(Ts:List PTy) (ps:List PV) (vs:List Value) (f fl G:List Nat) (n:Nat) (A:Hp) (β:Nat→GV) (ϕ:Nat→List Nat),zUC w Ts ps vs f fl→yO B X F A β ϕ w→Bd n β A→w.heap.size=B→(∀b∈f,b ∉ X)→(∀b∈fl,b∈F)→zCi A ϕ G→(∀b∈f,b ∉ G) →
  ∃β' ϕ',zVI B X F ((zFb n Ts ps).2.1++A) β β' ϕ ϕ' w n (zFb n Ts ps).2.2 (zFb n Ts ps).1 vs G:=by
 intro Ts
 induction Ts with
 | nil=>
  intro ps vs f fl G n A β ϕ hL hp hb hB hX hF hG hf
  cases hL
  exact⟨β,ϕ,hp,hb,fun _ _=>rfl,fun _ _=>rfl,rfl,trivial,trivial,Nat.le_refl _,hG⟩
 | cons T Ts ih=>
  intro ps vs f fl G n A β ϕ hL hp hb hB hX hF hG hf
  cases hL with
  | @cons _ _ p ps' v vs' f g fl1 gl h1 h2=>
   obtain⟨β1,ϕ1,b1,b2,b3,b4,b5,b6,b7,b8,b9⟩:=zTe (n:=n) h1 hp hb hB (fun b hb=>hX b (by simp[hb])) (fun b hb=>hF b (by simp[hb])) hG (fun b hb=>hf b (by simp[hb]))
   obtain⟨β',ϕ',a1,a2,a3,a4,a5,a6,a7,a8,a9⟩:=ih ps' vs' g gl G _ _ _ _ h2 b1 b2 hB (fun b hb=>hX b (by simp[hb])) (fun b hb=>hF b (by simp[hb])) b9 (fun b hb=>hf b (by simp[hb]))
   refine⟨β',ϕ',?_,?_,fun k hk=>(a3 k (by omega)).trans (b3 k hk),fun k hk=>(a4 k (by omega)).trans (b4 k hk),?_,?_,?_,?_,?_⟩
   ·simpa[zFb,List.append_assoc] using a1
   ·simpa[zFb,List.append_assoc] using a2
   ·simp only[zFb,SV.vals,a5]
    simp only[SV.vals,List.cons.injEq,and_true] at b5
    rw[SV.val_congr a3 _ b6.1,b5]
   ·exact⟨SV.lt_mono a8 _ b6.1,a6⟩
   ·exact⟨SV.ok_congr a3 _ b6.1 b7.1,a7⟩
   ·simp only[zFb];omega
   ·simpa[zFb,List.append_assoc] using a9
theorem zYM{T:PTy}{p:PV}{v:Value}{f fl G:List Nat}{n:Nat}(hL:zY3 w T p v f fl)(hp:yO B X F A β ϕ w)(hb:Bd n β A)(hB:w.heap.size=B)(hX:∀b∈f,b ∉ X)(hF:∀b∈fl,b∈F)(hG:zCi A ϕ G)(hf:∀b∈f,b ∉ G) :
  ∃β' ϕ',zVI B X F ((zL1 n T p).2.1++A) β β' ϕ ϕ' w n (zL1 n T p).2.2 [(zL1 n T p).1] [v] G:=by
 cases T with
 | fn g ts=>
  obtain⟨qs,cs,rfl,rfl,hL⟩:=hL
  obtain⟨β',ϕ',a1,a2,a3,a4,a5,a6,a7,a8,a9⟩:=zWh ts qs cs f fl G n A β ϕ hL hp hb hB hX hF hG hf
  exact⟨β',ϕ',a1,a2,a3,a4,by simp[zL1,SV.vals,SV.val,PV.A,a5],⟨a6,trivial⟩,⟨a7,trivial⟩,a8,a9⟩
 | _=>exact zTe hL hp hb hB hX hF hG hf
def zVF(w:World)(β:Nat→GV)(T:PTy)(x:SV):Prop:=
 match T,x with
 | .box l,.ptr h 0=>∃b t cs0,(β h).v=.pointer (some ⟨b,(β h).pre.length,none⟩)∧w.heap[b]?=some (.cells ((β h).pre++cs0++(β h).post).toArray t (0,0))∧cs0.length=l.length
 | _,_=>True
def nL:List PTy→Nat
 | []=>0
 | .list _ :: ts=>nL ts+1
 | _ :: ts=>nL ts
def zM1(β:Nat→GV):List PTy→Nat→List Value→Prop
 | .list _ :: ts,i,c :: cs=>c=(β i).v∧zM1 β ts (i+1) cs
 | _ :: ts,i,_ :: cs=>zM1 β ts i cs
 | _,_,_=>True
theorem zM1.congr{β β':Nat→GV}{n:Nat}(hβ:∀k,k < n→β' k=β k):∀{ts:List PTy} {i:Nat} {cs:List Value},zM1 β ts i cs→i+nL ts≤n→zM1 β' ts i cs
 | [],i,cs,h,hn=>by cases cs<;>trivial
 | t :: ts,i,[],h,hn=>by cases t<;>trivial
 | t :: ts,i,c :: cs,h,hn=>by
  cases t<;>simp only[zM1,nL] at h hn ⊢<;>first | exact zM1.congr hβ h hn | exact⟨h.1.trans (by rw[hβ i (by omega)]),zM1.congr hβ h.2 (by omega)⟩
theorem zOE{o:Own}{q:Nat→Pth}{β:Nat→GV}:∀{ts:List PTy} {ps:List PV} {j n:Nat},ts.length=ps.length→zM1 β ts n (SV.vals β (zU o q j n ts ps).1)∧(zU o q j n ts ps).2.2=n+nL ts
 | [],ps,j,n,h=>by simp[zU,zM1,nL]
 | t :: ts,[],j,n,h=>by simp at h
 | t :: ts,p :: ps,j,n,h=>by
  have hl:ts.length=ps.length:=by simpa using h
  cases t with
  | list T=>
   obtain⟨a1,a2⟩:=zOE (o:=o) (q:=q) (β:=β) (j:=j+1) (n:=n+1) hl
   simp only[zU,SV.vals,zM1,nL]
   exact⟨⟨rfl,a1⟩,by omega⟩
  | _=>
   obtain⟨a1,a2⟩:=zOE (o:=o) (q:=q) (β:=β) (j:=j+1) (n:=n) hl
   simp only[zU,SV.vals,zM1,nL]
   exact⟨a1,a2⟩
def zVG(w:World)(β:Nat→GV)(T:PTy)(x:SV):Prop:=
 match T,x with
 | .box l,.ptr h 0=>∃b t cs0,(β h).v=.pointer (some ⟨b,(β h).pre.length,none⟩)∧w.heap[b]?=some (.cells ((β h).pre++cs0++(β h).post).toArray t (0,0))∧cs0.length=l.length∧nL l≤h∧zM1 β l (h - nL l) cs0
 | _,_=>True
theorem zVG.congr{β β':Nat→GV}{n:Nat}{T:PTy}{x:SV}(h:zVG w β T x)(hβ:∀k,k < n→β' k=β k)(hx:SV.lt n x):zVG w β' T x:=by
 unfold zVG at h ⊢
 split at h
 ·rename_i l i
  obtain⟨b,t,cs0,h1,h2,h3,h4,h5⟩:=h
  have hi:i < n:=hx
  rw[hβ i hx];exact⟨b,t,cs0,h1,h2,h3,h4,h5.congr hβ (by omega)⟩
 ·trivial
def zW0(w:World)(β:Nat→GV):List (Md × PTy)→List SV→Prop
 | (.bx,t) :: ts,x :: xs=>zVF w β t x∧zW0 w β ts xs
 | (.bs,t) :: ts,x :: xs=>zVG w β t x∧zW0 w β ts xs
 | _ :: ts,_ :: xs=>zW0 w β ts xs
 | _,_=>True
theorem zVF.congr{β β':Nat→GV}{n:Nat}{T:PTy}{x:SV}(h:zVF w β T x)(hβ:∀k,k < n→β' k=β k)(hx:SV.lt n x):zVF w β' T x:=by
 unfold zVF at h ⊢
 split at h
 ·rename_i l i
  rw[hβ i hx];exact h
 ·trivial
theorem zW0.congr{β β':Nat→GV}{n:Nat}(hβ:∀k,k < n→β' k=β k):∀{ts:List (Md × PTy)} {xs:List SV},zW0 w β ts xs→SV.lts n xs→zW0 w β' ts xs
 | [],xs,h,hx=>by cases xs<;>trivial
 | (m,t) :: ts,[],h,hx=>by cases m<;>trivial
 | (m,t) :: ts,x :: xs,h,hx=>by
  cases m with
  | bx=>exact⟨h.1.congr hβ hx.1,zW0.congr hβ h.2 hx.2⟩
  | bs=>exact⟨h.1.congr hβ hx.1,zW0.congr hβ h.2 hx.2⟩
  | _=>exact zW0.congr (ts:=ts) (xs:=xs) hβ h hx.2
theorem zWd{T:PTy}{p:PV}{v:Value}{f G:List Nat}{n:Nat}(hL:zeR w T p v f)(hp:yO B X F A β ϕ w)(hb:Bd n β A)(hn:(f++G).Nodup)(hw:∀b∈f,(b∈X∨B≤b)∧(b∈F∨B≤b))(hd:zCi A ϕ (f++G)) :
  ∃β' ϕ',zVI B X F ((zL0 n T p).2.1++A) β β' ϕ ϕ' w n (zL0 n T p).2.2 [(zL0 n T p).1] [v] G∧zVF w β' T (zL0 n T p).1:=by
 cases T with
 | box ts=>
  obtain⟨qs,cs,fs,b,t,pre,post,rfl,rfl,hblk,hL,rfl⟩:=hL
  have hn':(fs.flatten++(b :: G)).Nodup:=by
   simp only[List.cons_append,List.nodup_cons,List.mem_append,not_or,List.nodup_append,List.mem_cons] at hn ⊢
   obtain⟨⟨q1,q2⟩,q3,q4,q5⟩:=hn
   refine⟨q3,⟨q2,q4⟩,?_⟩
   rintro a ha b' (rfl | hb') e
   ·subst e;exact q1 ha
   ·exact q5 a ha b' hb' e
  obtain⟨β',ϕ',a1,a2,a3,a4,a5,a6,a7,a8,a9⟩:=zJs noP (fun _=>rfl) ts qs cs fs (b :: G) 0 n A β ϕ hL hp hb hn' (fun c hc=>hw c (by simp only[List.mem_cons];exact .inr hc)) (hd.mono fun c hc=>by simp only[List.mem_append,List.mem_cons] at hc ⊢;rcases hc with h | h | h<;>simp[h])
  have hbc:∀k,k < (zU .dp noP 0 n ts qs).2.2→upd β' (zU .dp noP 0 n ts qs).2.2 ⟨.pointer (some ⟨b,pre.length,none⟩),pre,post⟩ k=β' k:=fun k hk=>zBS _ _ _ hk
  have hadd:=a1.add (n:=(zU .dp noP 0 n ts qs).2.2) (hl0:=.box true 0 (zU .dp noP 0 n ts qs).1) (g:=⟨.pointer (some ⟨b,pre.length,none⟩),pre,post⟩) (f:=[b]) a2 rfl
   ⟨b,t,rfl,rfl,by rw[SV.vals_congr hbc _ a6,a5];exact hblk⟩ (fun c hc=>by simp only[zq,List.mem_singleton] at hc;subst hc;exact(hw c (by simp)).1) (fun _ c hc=>by simp only[List.mem_singleton] at hc;subst hc;exact(hw c (by simp)).2) trivial
   (a9.mono fun c hc=>by simp only[zq,List.mem_singleton] at hc;simp[hc])
   (fun i hl hi _ c hc hm=>by
    simp only[List.mem_singleton] at hm
    subst hm
    by_cases hdd:hl=.dead
    ·subst hdd;simp[zq] at hc
    ·exact a9 i hl hi hdd c (zAC c hc) (by simp)) trivial (by simp[yc]) (by simp[yc])
  refine⟨_,_,⟨hadd,zFO a2 ⟨SV.lts_mono (Nat.le_succ (zU .dp noP 0 n ts qs).2.2) _ a6,SV.oks_congr hbc _ a6 a7⟩,fun k hk=>(zBS _ _ _ (show k < (zU .dp noP 0 n ts qs).2.2 by omega)).trans (a3 k hk),fun k hk=>(zBS _ _ _ (show k < (zU .dp noP 0 n ts qs).2.2 by omega)).trans (a4 k hk),?_,?_,?_,?_,?_⟩,⟨b,t,cs,by simp[PV.A,zA0],by simpa[PV.A,zA0] using hblk,hL.lv.lens.2.trans hL.lv.lens.1.symm⟩⟩
  ·simp[zL0,SV.vals,SV.val,PV.A,zA0]
  ·exact⟨by simp[zL0,SV.lt,PV.A],trivial⟩
  ·exact⟨⟨b,pre.length,by simp[PV.A,zA0]⟩,trivial⟩
  ·show n≤(zU .dp noP 0 n ts qs).2.2+1;omega
  ·refine zJ6 a2 (a9.mono fun c hc=>by simp[hc]) (fun c hc hm=>?_)
   simp only[List.mem_singleton] at hc
   subst hc
   simp only[List.cons_append,List.nodup_cons,List.mem_append,not_or] at hn
   exact hn.1.2 hm
 | abx T=>
  obtain⟨es,b,t,c,rfl,rfl,hblk,h1,h2,h3,rfl⟩:=hL
  have hadd:=hp.add (n:=n) (hl0:=.abx true T es) (g:=⟨.pointer (some ⟨b,0,none⟩),[],[]⟩) (f:=[b]) hb rfl
   ⟨h1,h2,b,t,c,rfl,rfl,hblk,h3⟩ (fun c hc=>(hw c (by simpa[zq] using hc)).1) (fun _ c hc=>(hw c hc).2) trivial
   (hd.mono fun c hc=>by simp only[zq,List.mem_singleton] at hc;simp[hc])
   (fun i hl hi _ c hc hm=>by
    simp only[List.mem_singleton] at hm
    subst hm
    by_cases hdd:hl=.dead
    ·subst hdd;simp[zq] at hc
    ·exact hd i hl hi hdd c (zAC c hc) (by simp)) trivial (by simp[yc]) (by simp[yc])
  refine⟨_,_,⟨hadd,zFO hb trivial,fun k hk=>zBS _ _ _ hk,fun k hk=>zBS _ _ _ hk,?_,?_,?_,?_,?_⟩,trivial⟩
  ·simp[zL0,SV.vals,SV.val,zA0]
  ·exact⟨by simp[zL0,SV.lt],trivial⟩
  ·exact⟨⟨b,0,by simp[zA0]⟩,trivial⟩
  ·show n≤n+1;omega
  ·refine zJ6 hb (hd.mono fun c hc=>by simp[hc]) (fun c hc hm=>?_)
   simp only[List.mem_singleton] at hc
   subst hc
   simp only[List.cons_append,List.nil_append,List.nodup_cons] at hn
   exact hn.1 hm
 | _=>exact hL.elim
theorem zWf{T:PTy}{p:PV}{v:Value}{f G:List Nat}{b n:Nat}(hL:zgi w T p v f b)(hp:yO B X F A β ϕ w)(hb:Bd n β A)(hB:w.heap.size=B)(hX:∀c∈f,c ∉ X)(hF:∀c∈f,c∈F)(hM:∀c∈b :: G,c∈X∧c∈F)(hn:b ∉ G)(hd:zCi A ϕ (b :: G)) :
  ∃β' ϕ',zVI B X F ((zOk n T p).2.1++A) β β' ϕ ϕ' w n (zOk n T p).2.2 [(zOk n T p).1] [v] G∧zVG w β' T (zOk n T p).1:=by
 cases T with
 | box ts=>
  obtain⟨qs,cs,t,pre,post,rfl,rfl,hblk,hL⟩:=hL
  obtain⟨β',ϕ',a1,a2,a3,a4,a5,a6,a7,a8,a9⟩:=zNY ts qs cs f (b :: G) 0 n A β ϕ hL hp hb hB hX hF hd (fun c hc hm=>hX c hc (hM c hm).1)
  have hlen:ts.length=qs.length:=hL.lens.1
  have hbc:∀k,k < (zU (.vw []) noP 0 n ts qs).2.2→upd β' (zU (.vw []) noP 0 n ts qs).2.2 ⟨.pointer (some ⟨b,pre.length,none⟩),pre,post⟩ k=β' k:=fun k hk=>zBS _ _ _ hk
  have hadd:=a1.add (n:=(zU (.vw []) noP 0 n ts qs).2.2) (hl0:=.box true 0 (zU (.vw []) noP 0 n ts qs).1) (g:=⟨.pointer (some ⟨b,pre.length,none⟩),pre,post⟩) (f:=[b]) a2 rfl
   ⟨b,t,rfl,rfl,by rw[SV.vals_congr hbc _ a6,a5];exact hblk⟩ (fun c hc=>by simp only[zq,List.mem_singleton] at hc;subst hc;exact .inl (hM c (by simp)).1) (fun _ c hc=>by simp only[List.mem_singleton] at hc;subst hc;exact .inl (hM c (by simp)).2) trivial
   (a9.mono fun c hc=>by simp only[zq,List.mem_singleton] at hc;simp[hc])
   (fun i hl hi _ c hc hm=>by
    simp only[List.mem_singleton] at hm
    subst hm
    by_cases hdd:hl=.dead
    ·subst hdd;simp[zq] at hc
    ·exact a9 i hl hi hdd c (zAC c hc) (by simp)) trivial (by simp[yc]) (by simp[yc])
  refine⟨_,_,⟨hadd,zFO a2 ⟨SV.lts_mono (Nat.le_succ (zU (.vw []) noP 0 n ts qs).2.2) _ a6,SV.oks_congr hbc _ a6 a7⟩,fun k hk=>(zBS _ _ _ (show k < (zU (.vw []) noP 0 n ts qs).2.2 by omega)).trans (a3 k hk),fun k hk=>(zBS _ _ _ (show k < (zU (.vw []) noP 0 n ts qs).2.2 by omega)).trans (a4 k hk),?_,?_,?_,?_,?_⟩,?_⟩
  ·simp[zOk,SV.vals,SV.val,PV.A,zA0]
  ·exact⟨by simp[zOk,SV.lt,PV.A],trivial⟩
  ·exact⟨⟨b,pre.length,by simp[PV.A,zA0]⟩,trivial⟩
  ·show n≤(zU (.vw []) noP 0 n ts qs).2.2+1;omega
  ·refine zJ6 a2 (a9.mono fun c hc=>by simp[hc]) (fun c hc hm=>?_)
   simp only[List.mem_singleton] at hc
   subst hc
   exact hn hm
  ·obtain⟨k1,k2⟩:=zOE (o:=.vw []) (q:=noP) (β:=β') (j:=0) (n:=n) hlen
   refine⟨b,t,cs,by simp[PV.A,zA0],by simpa[PV.A,zA0] using hblk,hL.lens.2.trans hlen.symm,?_,?_⟩
   ·show nL ts≤(zU (.vw []) noP 0 n ts qs).2.2;omega
   ·have e:(zU (.vw []) noP 0 n ts qs).2.2 - nL ts=n:=by omega
    show zM1 _ ts ((zU (.vw []) noP 0 n ts qs).2.2 - nL ts) cs
    rw[e]
    rw[a5] at k1
    exact k1.congr hbc (by omega)
 | _=>exact hL.elim
theorem zY9.ret{t:PTy}{p:PV}{v:Value}{f:List Nat}(h:zY9 w t p v f):zeQ w t p v f:=by
 cases t with
 | agg ts=>exact h
 | list T=>obtain⟨es,rfl,hO⟩:=h;exact⟨[f],.list hO .nil,by simp⟩
 | _=>exact h.elim
theorem zGE:∀(Ts:List (Md × PTy)) (ps:List PV) (vs:List Value) (fs fl ms:List Nat) (n:Nat) (A:Hp) (β:Nat→GV) (ϕ:Nat→List Nat),zDt w Ts ps vs fs fl ms→yO B X F A β ϕ w→Bd n β A→w.heap.size=B →
  (∀b∈fs,b ∉ X)→(∀b∈fl,b∈F)→(∀b∈ms,b∈X∧b∈F)→ms.Nodup→zCi A ϕ ms →
  ∃β' ϕ',zVI B X F ((zAh n Ts ps).2.1++A) β β' ϕ ϕ' w n (zAh n Ts ps).2.2 (zAh n Ts ps).1 vs []∧zW0 w β' Ts (zAh n Ts ps).1:=by
 intro Ts
 induction Ts with
 | nil=>
  intro ps vs fs fl ms n A β ϕ hL hp hb hB hX hF hM hn hG
  cases hL
  exact⟨β,ϕ,⟨hp,hb,fun _ _=>rfl,fun _ _=>rfl,rfl,trivial,trivial,Nat.le_refl _,hG.mono (by simp)⟩,trivial⟩
 | cons T Ts ih=>
  intro ps vs fs fl ms n A β ϕ hL hp hb hB hX hF hM hn hG
  have comb:∀{m t p ps' v vs'} {K:SV × Hp × Nat} {β1 ϕ1} {fs' fl' ms'},zLI n m t p=K→(m=.bx→zVF w β1 t K.1)→(m=.bs→zVG w β1 t K.1)→zVI B X F (K.2.1++A) β β1 ϕ ϕ1 w n K.2.2 [K.1] [v] ms'→zDt w Ts ps' vs' fs' fl' ms'→(∀b∈fs',b ∉ X)→(∀b∈fl',b∈F)→(∀b∈ms',b∈X∧b∈F)→ms'.Nodup →
    ∃β' ϕ',zVI B X F ((zAh n ((m,t) :: Ts) (p :: ps')).2.1++A) β β' ϕ ϕ' w n (zAh n ((m,t) :: Ts) (p :: ps')).2.2 (zAh n ((m,t) :: Ts) (p :: ps')).1 (v :: vs') []∧zW0 w β' ((m,t) :: Ts) (zAh n ((m,t) :: Ts) (p :: ps')).1:=by
   rintro m t p ps' v vs' K β1 ϕ1 fs' fl' ms' rfl hold holdS ⟨b1,b2,b3,b4,b5,b6,b7,b8,b9⟩ h2 g1 g2 g3 g4
   obtain⟨β',ϕ',⟨a1,a2,a3,a4,a5,a6,a7,a8,a9⟩,ho⟩:=ih ps' vs' fs' fl' ms' _ _ _ _ h2 b1 b2 hB g1 g2 g3 g4 b9
   refine⟨β',ϕ',⟨?_,?_,fun k hk=>(a3 k (by omega)).trans (b3 k hk),fun k hk=>(a4 k (by omega)).trans (b4 k hk),?_,?_,?_,?_,?_⟩,by
    cases m with
    | bx=>exact⟨(hold rfl).congr a3 b6.1,ho⟩
    | bs=>exact⟨(holdS rfl).congr a3 b6.1,ho⟩
    | _=>exact ho⟩
   ·simpa[zAh,List.append_assoc] using a1
   ·simpa[zAh,List.append_assoc] using a2
   ·simp only[zAh,SV.vals,a5]
    simp only[SV.vals,List.cons.injEq,and_true] at b5
    rw[SV.val_congr a3 _ b6.1,b5]
   ·exact⟨SV.lt_mono a8 _ b6.1,a6⟩
   ·exact⟨SV.ok_congr a3 _ b6.1 b7.1,a7⟩
   ·simp only[zAh];omega
   ·simpa[zAh,List.append_assoc] using a9
  cases hL with
  | rd h1 h2=>
   obtain⟨β1,ϕ1,hl⟩:=zYM (n:=n) h1 hp hb hB (fun b hb=>hX b (by simp[hb])) (fun b hb=>hF b (by simp[hb])) hG (fun b hb hm=>hX b (by simp[hb]) (hM b hm).1)
   exact comb rfl (fun e=>by cases e) (fun e=>by cases e) hl h2 (fun b hb=>hX b (by simp[hb])) (fun b hb=>hF b (by simp[hb])) hM hn
  | mt h1 h2=>
   obtain⟨β1,ϕ1,hl⟩:=zOD (n:=n) h1.ret hp hb hn (fun b hb=>⟨.inl (hM b (by simp[hb])).1,.inl (hM b (by simp[hb])).2⟩) hG
   exact comb rfl (fun e=>by cases e) (fun e=>by cases e) hl h2 hX hF (fun b hb=>hM b (by simp[hb])) (List.nodup_append.1 hn).2.1
  | ow h1 h2=>
   obtain⟨β1,ϕ1,hl⟩:=zOD (n:=n) h1.ret hp hb hn (fun b hb=>⟨.inl (hM b (by simp[hb])).1,.inl (hM b (by simp[hb])).2⟩) hG
   exact comb rfl (fun e=>by cases e) (fun e=>by cases e) hl h2 hX hF (fun b hb=>hM b (by simp[hb])) (List.nodup_append.1 hn).2.1
  | bx h1 h2=>
   obtain⟨β1,ϕ1,hl,hold⟩:=zWd (n:=n) h1 hp hb hn (fun b hb=>⟨.inl (hM b (by simp[hb])).1,.inl (hM b (by simp[hb])).2⟩) hG
   exact comb rfl (fun _=>hold) (fun e=>by cases e) hl h2 hX hF (fun b hb=>hM b (by simp[hb])) (List.nodup_append.1 hn).2.1
  | bs h1 h2=>
   simp only[List.nodup_cons] at hn
   obtain⟨β1,ϕ1,hl,hold⟩:=zWf (n:=n) h1 hp hb hB (fun b hb=>hX b (by simp[hb])) (fun b hb=>hF b (by simp[hb])) hM hn.1 hG
   exact comb rfl (fun e=>by cases e) (fun _=>hold) hl h2 (fun b hb=>hX b (by simp[hb])) (fun b hb=>hF b (by simp[hb])) (fun b hb=>hM b (by simp[hb])) hn.2
end
end
section
variable [zS]
def zMW(E:Env)(S:St):List ResultVar→Option (List SV)
 | []=>some []
 | .tmp t :: ts=>match lk S.Lp t,zMW E S ts with | some x,some xs=>some (x :: xs) | _,_=>none
 | .cell t ty :: ts=>match lk S.Lp t,zMW E S ts with
  | some (.ptr h 0),some xs=>(match lk S.A h,lk E.ty ty with
   | some (.box _ _ cs),some ti=>if ti.agg&&cs.length == ti.sz then some (.agg cs :: xs) else none
   | _,_=>none)
  | _,_=>none
def zbQ:Nat→List SV→List (Nat × SV)
 | _,[]=>[]
 | i,x :: xs=>(i,x) :: zbQ (i+1) xs
def zPf:List PTy→Nat→List SV→Option (Prop × List PV)
 | [],_,[]=>some (True,[])
 | .int k :: ts,i,.int k' m :: xs=>match zPf ts i xs with | some (o,ps)=>some (k'=k∧o,.int k m :: ps) | none=>none
 | .bool :: ts,i,.bool b :: xs=>match zPf ts i xs with | some (o,ps)=>some (o,.bool b :: ps) | none=>none
 | .str :: ts,i,.str l :: xs=>match zPf ts i xs with | some (o,ps)=>some (o,.str l :: ps) | none=>none
 | .list _ :: ts,i,.sl j :: xs=>match zPf ts (i+1) xs with | some (o,ps)=>some (j=i∧o,.list [] :: ps) | none=>none
 | _,_,_=>none
def zJJ(A:Hp):List (Md × PTy)→List SV→Option (Prop × List PV)
 | (.mt,t) :: ts,x :: xs=>match zDF A t x,zJJ A ts xs with | some (o,p),some (o',ps)=>some (o∧o',p :: ps) | _,_=>none
 | (.rd,_) :: ts,_ :: xs=>zJJ A ts xs
 | (.ow,_) :: ts,_ :: xs=>zJJ A ts xs
 | (.bx,.box l) :: ts,.ptr h 0 :: xs=>(match lk A h with
  | some (.box true _ cs)=>(match zBh A l cs,zJJ A ts xs with | some (o,p),some (o',ps)=>some ((o∧cs.length=l.length)∧o',.agg p :: ps) | _,_=>none)
  | _=>none)
 | (.bx,.abx T) :: ts,.ptr h 0 :: xs=>(match lk A h with
  | some (.abx true T' es)=>(match zJJ A ts xs with | some (o',ps)=>some (T'=T∧o',.list es :: ps) | none=>none)
  | _=>none)
 | (.bs,.box l) :: ts,.ptr h 0 :: xs=>(match lk A h with
  | some (.box true _ cs)=>(match zPf l (h - nL l) cs,zJJ A ts xs with | some (o,p),some (o',ps)=>some ((o∧cs.length=l.length)∧o',.agg p :: ps) | _,_=>none)
  | _=>none)
 | [],[]=>some (True,[])
 | _,_=>none
def zML:List PTy→Prop
 | []=>True
 | .agg _ :: ts=>zML ts
 | .int _ :: ts=>zML ts
 | .bool :: ts=>zML ts
 | .str :: ts=>zML ts
 | .list _ :: ts=>zML ts
 | _ :: _=>False
def zZV:List (Md × PTy)→Prop
 | []=>True
 | (.mt,.agg _) :: ts=>zZV ts
 | (.mt,.list _) :: ts=>zZV ts
 | (.mt,_) :: _=>False
 | _ :: ts=>zZV ts
def zZ0(A:Hp):SV→List SV
 | .ptr h _=>(match lk A h with | some (.box _ _ cs)=>cs | _=>[])
 | _=>[]
def zNO(A:Hp):List (Md × PTy)→List SV→List Nat
 | (.mt,_) :: ts,x :: xs=>zAZ x.cells++zNO A ts xs
 | (.bx,_) :: ts,x :: xs=>zAZ (zZ0 A x)++zNO A ts xs
 | _ :: ts,_ :: xs=>zNO A ts xs
 | _,_=>[]
def zSo(A:Hp):List (Md × PTy)→List SV→List Nat
 | (.mt,_) :: ts,x :: xs=>zAZ x.cells++zSo A ts xs
 | (.bx,_) :: ts,.ptr h _ :: xs=>h :: (zAZ (zZ0 A (.ptr h 0))++zSo A ts xs)
 | (.bs,_) :: ts,.ptr h _ :: xs=>h :: zSo A ts xs
 | _ :: ts,_ :: xs=>zSo A ts xs
 | _,_=>[]
def zbv(s:zJ)(xs xs0:List SV)(ps:List PV)(A:Hp):Prop:=
 match zNF A s.ret xs,zJJ A s.args xs0 with
 | some (o,rs),some (o',qs)=>o∧rs=s.res ps∧o'∧qs=s.out ps∧zGw A (zE9 xs++zNO A s.args xs0)=true
 | _,_=>False
def zWl(E:Env)(outs:List ResultVar)(s:zJ)(xs0:List SV)(ps:List PV)(S:St):Prop:=
 match zMW E S outs with
 | none=>False
 | some xs=>zML s.ret ∧
   (if s.fresh then zZV s.args∧ndB (zE9 xs++zSo (zFE S.A (zE9 xs++zNO S.A s.args xs0)) s.args xs0)=true∧zbv s xs xs0 ps (zFE S.A (zE9 xs++zNO S.A s.args xs0))
   else zG3 s.args=true∧(match zNF S.A s.ret xs with | some (o,rs)=>o∧rs=s.res ps | none=>False))
section
variable {P:Program} {E:Env} {N:Nat} {w0:World} {X F:List Nat} {S:St} {β:Nat→GV} {ϕ:Nat→List Nat} {a:Act} {w w':World} {o:Oper} {R:RR} {A:Hp} {B:Nat}
theorem zVS{T:PTy}{x:SV}{ob:Prop}{p:PV}(h:zDF A T x=some (ob,p))(hob:ob)(hp:yO B X F A β ϕ w)(hk:SV.ok β x)(ho:zGw A (zAZ x.cells)=true)(hT:zML [T]) :
  zeQ w T p (SV.val β x) ((zAZ x.cells).map ϕ).flatten:=by
 have lists:∀{us:List PTy} {ys:List SV} {o:Prop} {rs:List PV},zBh A us ys=some (o,rs)→o→SV.oks β ys→zGw A (zAZ ys)=true→LoD w us rs (SV.vals β ys) (zOF ϕ ys):=by
  intro us ys o rs q1 q2 q3 q4
  refine zFI q1 q2 q3 fun h hh o T es p hA=>?_
  obtain⟨T',es',p',e⟩:=zLQ.1 (zGS.1 q4 h hh)
  rw[hA] at e;cases e
  exact hp.sat _ _ hA
 have leaf:∀(h':zDY A T x=some (ob,p)),(x.cells=[x])→∃fs,LoD w [T] [p] [SV.val β x] fs∧((zAZ x.cells).map ϕ).flatten=fs.flatten:=by
  intro h' hc
  rw[hc] at ho ⊢
  exact⟨_,lists (us:=[T]) (ys:=[x]) (o:=ob∧True) (rs:=[p]) (by simp[zBh,h']) ⟨hob,trivial⟩ ⟨hk,trivial⟩ ho,by rw[zFP]⟩
 cases T with
 | agg ts=>
  cases x with
  | agg xs=>
   simp only[zDF] at h
   split at h
   ·rename_i o ps hps
    simp only[Option.some.injEq,Prod.mk.injEq] at h
    obtain⟨rfl,rfl⟩:=h
    exact⟨ps,_,_,rfl,rfl,lists hps hob hk ho,by rw[zFP];rfl⟩
   ·cases h
  | _=>simp[zDF,zDY] at h
 | box ts=>exact hT.elim
 | abx t=>exact hT.elim
 | fn g ts=>exact hT.elim
 | opq=>exact hT.elim
 | int k=>cases x<;>first | (simp[zDF,zDY] at h;done) | exact leaf (by simpa[zDF] using h) rfl
 | bool=>cases x<;>first | (simp[zDF,zDY] at h;done) | exact leaf (by simpa[zDF] using h) rfl
 | str=>cases x<;>first | (simp[zDF,zDY] at h;done) | exact leaf (by simpa[zDF] using h) rfl
 | list T=>cases x<;>first | (simp[zDF,zDY] at h;done) | exact leaf (by simpa[zDF] using h) rfl
theorem zRO{t:PTy}{ts:List PTy}(h:zML (t :: ts)):zML [t]∧zML ts:=by
 cases t<;>first | exact⟨trivial,h⟩ | exact h.elim
theorem zI6{l l':List Nat}:zGw A (l++l')=true↔zGw A l=true∧zGw A l'=true:=by
 simp only[zGS,List.mem_append]
 exact⟨fun h=>⟨fun i hi=>h i (.inl hi),fun i hi=>h i (.inr hi)⟩,fun h i hi=>hi.elim (h.1 i) (h.2 i)⟩
theorem zS4:∀{ts:List PTy} {xs:List SV} {ob:Prop} {ps:List PV},zNF A ts xs=some (ob,ps)→ob→yO B X F A β ϕ w→SV.oks β xs→zGw A (zE9 xs)=true→zML ts →
  zRA w ts ps (SV.vals β xs) ((zE9 xs).map ϕ).flatten
 | [],[],ob,ps,h,hob,hp,hk,ho,hT=>by cases h;exact .nil
 | [],x :: xs,ob,ps,h,hob,hp,hk,ho,hT=>by cases h
 | t :: ts,[],ob,ps,h,hob,hp,hk,ho,hT=>by cases h
 | t :: ts,x :: xs,ob,ps,h,hob,hp,hk,ho,hT=>by
  simp only[zNF] at h
  split at h
  ·rename_i o1 p o2 qs h1 h2
   cases h
   obtain⟨hT1,hT2⟩:=zRO hT
   simp only[zE9,zI6] at ho
   simp only[zE9,List.map_append,List.flatten_append,SV.vals]
   exact .cons (zVS h1 hob.1 hp hk.1 ho.1 hT1) (zS4 h2 hob.2 hp hk.2 ho.2 hT2)
  ·cases h
theorem zeQ.arg{t:PTy}{p:PV}{v:Value}{f:List Nat}(h:zeQ w t p v f)(ht:(∃ts,t=.agg ts)∨∃T,t=.list T):zY9 w t p v f:=by
 rcases ht with ⟨ts,rfl⟩ | ⟨T,rfl⟩
 ·exact h
 ·obtain⟨fs,hL,rfl⟩:=h
  cases hL with
  | list hO hr=>cases hr;exact⟨_,rfl,by simpa using hO⟩
theorem zNE:∀{l:List PTy} {i:Nat} {cs:List SV} {o:Prop} {ps:List PV} {cs0:List Value},zPf l i cs=some (o,ps)→o→zM1 β l i cs0→cs0.length=l.length→SV.oks β cs→KpS l ps cs0 (SV.vals β cs)
 | [],i,cs,o,ps,cs0,h,ho,hk,hl,hok=>by
  cases cs with
  | nil=>cases h;cases cs0<;>first | exact .nil | (simp at hl)
  | cons c cs=>cases h
 | t :: ts,i,cs,o,ps,[],h,ho,hk,hl,hok=>by simp at hl
 | t :: ts,i,[],o,ps,c0 :: cs0,h,ho,hk,hl,hok=>by cases t<;>cases h
 | t :: ts,i,c :: cs,o,ps,c0 :: cs0,h,ho,hk,hl,hok=>by
  have hl':cs0.length=ts.length:=by simpa using hl
  cases t with
  | int k=>
   cases c<;>simp only[zPf,reduceCtorEq] at h
   split at h
   ·rename_i o1 ps1 h1
    simp only[Option.some.injEq,Prod.mk.injEq] at h
    obtain⟨rfl,rfl⟩:=h
    obtain⟨rfl,ho⟩:=ho
    exact .int hok.1 (zNE h1 ho hk hl' hok.2)
   ·cases h
  | bool=>
   cases c<;>simp only[zPf,reduceCtorEq] at h
   split at h
   ·rename_i o1 ps1 h1
    simp only[Option.some.injEq,Prod.mk.injEq] at h
    obtain⟨rfl,rfl⟩:=h
    exact .bool (zNE h1 ho hk hl' hok.2)
   ·cases h
  | str=>
   cases c<;>simp only[zPf,reduceCtorEq] at h
   split at h
   ·rename_i o1 ps1 h1
    simp only[Option.some.injEq,Prod.mk.injEq] at h
    obtain⟨rfl,rfl⟩:=h
    exact .str hok.1 (zNE h1 ho hk hl' hok.2)
   ·cases h
  | list T=>
   cases c<;>simp only[zPf,reduceCtorEq] at h
   split at h
   ·rename_i o1 ps1 h1
    simp only[Option.some.injEq,Prod.mk.injEq] at h
    obtain⟨rfl,rfl⟩:=h
    obtain⟨rfl,ho⟩:=ho
    obtain⟨rfl,hk⟩:=hk
    exact .list (zNE h1 ho hk hl' hok.2)
   ·cases h
  | _=>cases h
theorem zH0{w':World}:∀{ts:List (Md × PTy)} {xs:List SV} {ob:Prop} {ps:List PV},zJJ A ts xs=some (ob,ps)→ob→yO B X F A β ϕ w→SV.oks β xs→(∀i o t cs,lk A i=some (.box o t cs)→SV.oks β cs)→zGw A (zNO A ts xs)=true→zZV ts→zW0 w' β ts xs →
  zSl w' w ts ps (SV.vals β xs) ((zSo A ts xs).map ϕ).flatten∧∀h∈zSo A ts xs,zdi A ϕ h
 | [],[],ob,ps,h,hob,hp,hk,hbx,ho,hT,hX=>by cases h;exact⟨.nil,by simp[zSo]⟩
 | [],x :: xs,ob,ps,h,hob,hp,hk,hbx,ho,hT,hX=>by cases h
 | (m,t) :: ts,[],ob,ps,h,hob,hp,hk,hbx,ho,hT,hX=>by cases m<;>(try cases h)<;>cases t<;>cases h
 | (m,t) :: ts,x :: xs,ob,ps,h,hob,hp,hk,hbx,ho,hT,hX=>by
  cases m with
  | rd=>
   obtain⟨r1,r2⟩:=zH0 (ts:=ts) (xs:=xs) h hob hp hk.2 hbx ho (by cases t<;>exact hT) hX
   exact⟨.rd r1,r2⟩
  | ow=>
   obtain⟨r1,r2⟩:=zH0 (ts:=ts) (xs:=xs) h hob hp hk.2 hbx ho (by cases t<;>exact hT) hX
   exact⟨.ow r1,r2⟩
  | bx=>
   have hT2:zZV ts:=by cases t<;>exact hT
   cases t with
   | box l=>
    cases x with
    | ptr i off=>
     cases off with
     | zero=>
      simp only[zJJ] at h
      split at h
      case h_2=>cases h
      rename_i tt cs hA
      split at h
      case h_2=>cases h
      rename_i o1 p o2 qs h1 h2
      simp only[Option.some.injEq,Prod.mk.injEq] at h
      obtain⟨rfl,rfl⟩:=h
      simp only[zNO,zZ0,hA,zI6] at ho
      obtain⟨r1,r2⟩:=zH0 h2 hob.2 hp hk.2 hbx ho.2 hT2 hX.2
      obtain⟨b,t',hb,hϕ,hblk⟩:=hp.sat _ _ hA
      obtain⟨b2,t2,cs0,hb2,hblk2,hl0⟩:=hX.1
      have:b2=b:=by
       rw[hb] at hb2;simp only[Value.pointer.injEq,Option.some.injEq,Addr.mk.injEq] at hb2;exact hb2.1.symm
      subst this
      have hLo:LoD w l p (SV.vals β cs) (zOF ϕ cs):=zFI h1 hob.1.1 (hbx _ _ _ _ hA) fun h hh o T es p' hA'=>by
       obtain⟨T',es',p2,e⟩:=zLQ.1 (zGS.1 ho.1 h hh)
       rw[e] at hA';cases hA'
       exact hp.sat _ _ e
      constructor
      ·have hx:OutX w' w (.box l) (.agg p) (SV.val β (.ptr i 0)) (b2 :: (zOF ϕ cs).flatten):=
        ⟨p,cs0,SV.vals β cs,zOF ϕ cs,b2,t2,t',(β i).pre,(β i).post,rfl,by simp[SV.val,hb],hblk2,hl0,hblk,hLo,rfl⟩
       have:=zSl.bx hx r1
       simp only[zSo,zZ0,hA,List.map_append,List.map_cons,List.flatten_append,List.flatten_cons,hϕ,←zFP,List.cons_append,List.append_assoc,List.nil_append,SV.vals] at this ⊢
       exact this
      ·intro h hh
       simp only[zSo,zZ0,hA,List.mem_cons,List.mem_append] at hh
       rcases hh with rfl | hh | hh
       ·exact⟨_,hA,by simp,rfl,by rw[hϕ];simp,rfl⟩
       ·exact zSE hp (zGS.1 ho.1 h hh)
       ·exact r2 h hh
     | succ n=>simp[zJJ] at h
    | _=>simp[zJJ] at h
   | abx T=>
    cases x with
    | ptr i off=>
     cases off with
     | zero=>
      simp only[zJJ] at h
      split at h
      case h_2=>cases h
      rename_i T' es hA
      split at h
      case h_2=>cases h
      rename_i o2 qs h2
      simp only[Option.some.injEq,Prod.mk.injEq] at h
      obtain⟨rfl,rfl⟩:=h
      simp only[zNO,zZ0,hA,zAZ,List.nil_append] at ho
      obtain⟨r1,r2⟩:=zH0 h2 hob.2 hp hk.2 hbx ho hT2 hX.2
      have:=hob.1
      subst this
      obtain⟨g1,g2,b,t',c,hv,hϕ,hblk,hL⟩:=hp.sat _ _ hA
      constructor
      ·have hx:OutX w' w (.abx T') (.list es) (SV.val β (.ptr i 0)) [b]:=⟨es,b,t',c,rfl,by simp[SV.val,hv],hblk,g1,g2,hL,rfl⟩
       have:=zSl.bx hx r1
       simp only[zSo,zZ0,hA,zAZ,List.map_cons,List.flatten_cons,hϕ,List.nil_append,SV.vals] at this ⊢
       exact this
      ·intro h hh
       simp only[zSo,zZ0,hA,zAZ,List.nil_append,List.mem_cons] at hh
       rcases hh with rfl | hh
       ·exact⟨_,hA,by simp,rfl,by rw[hϕ];simp,rfl⟩
       ·exact r2 h hh
     | succ n=>simp[zJJ] at h
    | _=>simp[zJJ] at h
   | _=>cases x<;>simp[zJJ] at h
  | bs=>
   have hT2:zZV ts:=by cases t<;>exact hT
   cases t with
   | box l=>
    cases x with
    | ptr i off=>
     cases off with
     | zero=>
      simp only[zJJ] at h
      split at h
      case h_2=>cases h
      rename_i tt cs hA
      split at h
      case h_2=>cases h
      rename_i o1 p o2 qs h1 h2
      simp only[Option.some.injEq,Prod.mk.injEq] at h
      obtain⟨rfl,rfl⟩:=h
      obtain⟨r1,r2⟩:=zH0 h2 hob.2 hp hk.2 hbx ho hT2 hX.2
      obtain⟨b,t',hb,hϕ,hblk⟩:=hp.sat _ _ hA
      obtain⟨b2,t2,cs0,hb2,hblk2,hl0,_,hkp⟩:=hX.1
      have:b2=b:=by
       rw[hb] at hb2;simp only[Value.pointer.injEq,Option.some.injEq,Addr.mk.injEq] at hb2;exact hb2.1.symm
      subst this
      have hKp:=zNE h1 hob.1.1 hkp hl0 (hbx _ _ _ _ hA)
      constructor
      ·have hx:OutS w' w (.box l) (.agg p) (SV.val β (.ptr i 0)) b2:=
        ⟨p,cs0,SV.vals β cs,t2,t',(β i).pre,(β i).post,rfl,by simp[SV.val,hb],hblk2,hl0,hblk,hKp⟩
       have:=zSl.bs hx r1
       simp only[zSo,List.map_cons,List.flatten_cons,hϕ,List.cons_append,List.nil_append,SV.vals] at this ⊢
       exact this
      ·intro h hh
       simp only[zSo,List.mem_cons] at hh
       rcases hh with rfl | hh
       ·exact⟨_,hA,by simp,rfl,by rw[hϕ];simp,rfl⟩
       ·exact r2 h hh
     | succ n=>simp[zJJ] at h
    | _=>simp[zJJ] at h
   | _=>cases x<;>simp[zJJ] at h
  | mt=>
   simp only[zJJ] at h
   split at h
   ·rename_i o1 p o2 qs h1 h2
    cases h
    simp only[zNO,zI6] at ho
    have ht:(∃ts,t=.agg ts)∨∃T,t=.list T:=by cases t<;>first | exact hT.elim | exact .inl ⟨_,rfl⟩ | exact .inr ⟨_,rfl⟩
    have hT1:zML [t]:=by rcases ht with ⟨ts,rfl⟩ | ⟨T,rfl⟩<;>trivial
    have hT2:zZV ts:=by cases t<;>first | exact hT.elim | exact hT
    obtain⟨r1,r2⟩:=zH0 h2 hob.2 hp hk.2 hbx ho.2 hT2 hX
    constructor
    ·simp only[zSo,List.map_append,List.flatten_append,SV.vals]
     exact .mt ((zVS h1 hob.1 hp hk.1 ho.1 hT1).arg ht) r1
    ·intro h hh
     simp only[zSo,List.mem_append] at hh
     rcases hh with hh | hh
     ·exact zSE hp (zGS.1 ho.1 h hh)
     ·exact r2 h hh
   ·cases h
theorem zZK{T:PTy}{x:SV}{ob:Prop}{p:PV}(h:zDF A T x=some (ob,p))(hob:ob)(hp:yO B X F A β ϕ w)(hk:SV.ok β x)(hT:zML [T]) :
  ∃f,RetN w T p (SV.val β x) f∧∀b∈f,b∈F∨B≤b:=by
 have lists:∀{us:List PTy} {ys:List SV} {o:Prop} {rs:List PV},zBh A us ys=some (o,rs)→o→SV.oks β ys→∃f,Lv w us rs (SV.vals β ys) f∧∀b∈f,b∈F∨B≤b:=by
  intro us ys o rs q1 q2 q3
  obtain⟨f,q4,q5⟩:=zGp q1 q2 hp q3
  refine⟨f,q4,fun b hb=>?_⟩
  obtain⟨i,hi,hl,e1,e2,e3⟩:=q5 b hb
  obtain⟨hl',e4,e5⟩:=zND q1 i hi
  rw[e1] at e4;cases e4
  exact hp.all i hl e1 e5.isA b e3
 have leaf:∀(h':zDY A T x=some (ob,p)),∃f,Lv w [T] [p] [SV.val β x] f∧∀b∈f,b∈F∨B≤b:=fun h'=>
  lists (us:=[T]) (ys:=[x]) (o:=ob∧True) (rs:=[p]) (by simp[zBh,h']) ⟨hob,trivial⟩ ⟨hk,trivial⟩
 cases T with
 | agg ts=>
  cases x with
  | agg xs=>
   simp only[zDF] at h
   split at h
   ·rename_i o ps hps
    simp only[Option.some.injEq,Prod.mk.injEq] at h
    obtain⟨rfl,rfl⟩:=h
    obtain⟨f,q1,q2⟩:=lists hps hob hk
    exact⟨f,⟨ps,_,rfl,rfl,q1⟩,q2⟩
   ·cases h
  | _=>simp[zDF,zDY] at h
 | box ts=>exact hT.elim
 | abx t=>exact hT.elim
 | fn g ts=>exact hT.elim
 | opq=>exact hT.elim
 | int k=>cases x<;>first | (simp[zDF,zDY] at h;done) | exact leaf (by simpa[zDF] using h)
 | bool=>cases x<;>first | (simp[zDF,zDY] at h;done) | exact leaf (by simpa[zDF] using h)
 | str=>cases x<;>first | (simp[zDF,zDY] at h;done) | exact leaf (by simpa[zDF] using h)
 | list T=>cases x<;>first | (simp[zDF,zDY] at h;done) | exact leaf (by simpa[zDF] using h)
theorem zS3:∀{ts:List PTy} {xs:List SV} {ob:Prop} {ps:List PV},zNF A ts xs=some (ob,ps)→ob→yO B X F A β ϕ w→SV.oks β xs→zML ts →
  ∃f,zWu w ts ps (SV.vals β xs) f∧∀b∈f,b∈F∨B≤b
 | [],[],ob,ps,h,hob,hp,hk,hT=>by cases h;exact⟨[],.nil,by simp⟩
 | [],x :: xs,ob,ps,h,hob,hp,hk,hT=>by cases h
 | t :: ts,[],ob,ps,h,hob,hp,hk,hT=>by cases h
 | t :: ts,x :: xs,ob,ps,h,hob,hp,hk,hT=>by
  simp only[zNF] at h
  split at h
  ·rename_i o1 p o2 qs h1 h2
   cases h
   obtain⟨hT1,hT2⟩:=zRO hT
   obtain⟨f,q1,q2⟩:=zZK h1 hob.1 hp hk.1 hT1
   obtain⟨g,q3,q4⟩:=zS3 h2 hob.2 hp hk.2 hT2
   exact⟨f++g,.cons q1 q3,fun b hb=>(List.mem_append.1 hb).elim (q2 b) (q4 b)⟩
  ·cases h
theorem zIB(hE:zFj P E)(sat:Sat N w0 X F S β ϕ a w)(g:ResultVar→Sem Value)(hg:∀t,g (.tmp t)=pure (a.tmps.getD t undef))(hc:∀t ty,g (.cell t ty)=asAddr (a.tmps.getD t undef) >>= fun x=>loadVar ty x) :
  ∀{outs:List ResultVar} {xs:List SV},zMW E S outs=some xs→(outs.mapM g).run P w=.ok (SV.vals β xs) w∧SV.oks β xs∧SV.lts S.n xs∧xs.length=outs.length
 | [],xs,h=>by cases h;exact⟨rfl,trivial,trivial,rfl⟩
 | .tmp t :: ts,xs,h=>by
  simp only[zMW] at h
  split at h
  ·rename_i x ys hx hy
   cases h
   obtain⟨h1,h2,h3,h4⟩:=zIB hE sat g hg hc hy
   obtain⟨q1,q2,q3⟩:=sat.lp t x hx
   refine⟨?_,⟨q3,h2⟩,⟨q2,h3⟩,by simp[h4]⟩
   simp only[List.mapM_cons,Sem.run_bind,Sem.run_pure,Result.andThen_ok,h1,hg,SV.vals,Array.getD_eq_getD_getElem?,q1,Option.getD_some]
  ·cases h
 | .cell t ty :: ts,xs,h=>by
  simp only[zMW] at h
  split at h
  ·rename_i i ys hx hy
   split at h
   ·rename_i ow bt cs ti hl hti
    split at h
    ·rename_i hcond
     cases h
     simp only[Bool.and_eq_true,beq_iff_eq] at hcond
     obtain⟨hA,hlen⟩:=hcond
     obtain⟨h1,h2,h3,h4⟩:=zIB hE sat g hg hc hy
     obtain⟨q1,q2,b,oo,hb⟩:=sat.lp t _ hx
     obtain⟨b',bt',hb',hϕ,hold⟩:=sat.hp.sat _ _ hl
     rw[hb] at hb'
     simp only[Value.pointer.injEq,Option.some.injEq,Addr.mk.injEq,and_true] at hb'
     obtain⟨rfl,rfl⟩:=hb'
     simp only[SV.val,hb,Nat.add_zero] at q1
     obtain⟨k1,k2⟩:=(sat.hb _ _ hl).2
     have hag:=zJc (hE _ _ hti)
     have hsz:=zD2 (hE _ _ hti)
     have hcl:(SV.vals β cs).length=cs.length:=by simp[SV.vals_map]
     have hlc:=zCL (P:=P) b ((β i).pre.length+0) ti.sz _ bt' (0,0) hold (by simp[hcl,hlen])
     rw[List.toList_toArray,zVi _ _ _ (by rw[hcl];omega)] at hlc
     have hall:((SV.vals β cs).drop 0).take ti.sz=SV.vals β cs:=by
      rw[List.drop_zero,List.take_of_length_le (by simp[SV.vals_map,hlen])]
     simp only[hall,Nat.add_zero] at hlc
     refine⟨?_,⟨k2,h2⟩,⟨k1,h3⟩,by simp[h4]⟩
     simp only[List.mapM_cons,Sem.run_bind,Sem.run_pure,Result.andThen_ok,h1,hc,SV.vals,SV.val,Array.getD_eq_getD_getElem?,q1,Option.getD_some,asAddr,loadVar,hag,hsz,hA,if_true,hlc]
    ·cases h
   ·cases h
  ·cases h
theorem zHz{fn:Func}{outs:List ResultVar}(h:fn.results=outs.toArray)(tmps:Array Value)(w:World)(g:ResultVar→Sem Value)(hg:∀t,g (.tmp t)=pure (tmps.getD t undef))(hc:∀t ty,g (.cell t ty)=asAddr (tmps.getD t undef) >>= fun x=>loadVar ty x)
  {vs:List Value} (hv:(outs.mapM g).run P w=.ok vs w) (hlen:vs.length=outs.length):(results fn tmps).run P w=.ok (zQ0 vs) w:=by
 have hgg:∀g':ResultVar→Sem Value,(∀t,g' (.tmp t)=pure (tmps.getD t undef))→(∀t ty,g' (.cell t ty)=asAddr (tmps.getD t undef) >>= fun x=>loadVar ty x)→outs.mapM g'=outs.mapM g:=by
  intro g' h1 h2
  have:g'=g:=by
   funext r
   cases r with
   | tmp t=>rw[h1,hg]
   | cell a t=>rw[h2,hc]
  rw[this]
 unfold results
 rw[h,List.mapM_toArray]
 simp only[Sem.run_bind,Sem.run_map,Result.andThen_ok]
 rw[hgg _ (fun _=>rfl) (fun _ _=>rfl),hv]
 simp only[Result.andThen_ok,Sem.run_pure]
 match vs with
 | []=>rfl
 | [x]=>rfl
 | x :: y :: l=>simp[zQ0]
theorem zUg:∀{xs:List SV} {i t:Nat} {v:SV},lk (zbQ i xs) t=some v→i≤t∧xs[t - i]?=some v
 | [],i,t,v,h=>by cases h
 | x :: xs,i,t,v,h=>by
  simp only[zbQ,lk] at h
  split at h
  ·rename_i e;subst e;cases h;simp
  ·rename_i e
   obtain⟨h1,h2⟩:=zUg h
   refine⟨by omega,?_⟩
   rw[show t - i=(t - (i+1))+1 by omega]
   simpa using h2
theorem zDt.lens{ts:List (Md × PTy)}{ps:List PV}{vs:List Value}{f fl ms:List Nat}(h:zDt w ts ps vs f fl ms):ts.length=vs.length:=by
 induction h with
 | nil=>rfl
 | rd _ _ ih=>simp[ih]
 | mt _ _ ih=>simp[ih]
 | ow _ _ ih=>simp[ih]
 | bx _ _ ih=>simp[ih]
 | bs _ _ ih=>simp[ih]
theorem zDt.rdms{ts:List (Md × PTy)}{ps:List PV}{vs:List Value}{f fl ms:List Nat}(h:zDt w ts ps vs f fl ms)(hr:zG3 ts=true):ms=[]:=by
 induction h with
 | nil=>rfl
 | rd _ _ ih=>exact ih hr
 | mt _ _ _=>simp[zG3] at hr
 | ow _ _ _=>simp[zG3] at hr
 | bx _ _ _=>simp[zG3] at hr
 | bs _ _ _=>simp[zG3] at hr
theorem zUd{fid:FuncId}{fn:Func}{c:Code}{s:zJ}{keep:List Nat}{outs:List ResultVar}(G:(List KI→St→Prop)→Prop)(hG:∀C:Cx,C.Ok→C.P=P→C.N=fn.ntmps→C.keep=keep→G (WP C))(hE:zGf P E)(hm:P.follows .mixedOrders=true)(hf:P.funcs[fid]?=some fn)(hb:fn.body=some c)
  (hr:fn.results=outs.toArray) (hp:s.args.length≤fn.ntmps) (hkeep:∀i,i < s.args.length→keep.contains i=true)
  (h:∀ps,TyA s.args ps→s.pre ps→∀W,zNn E fn.ntmps keep (zAh 0 s.args ps).2.2 (zWl E outs s (zAh 0 s.args ps).1 ps) W→G W →
   W [.code c] ⟨zbQ 0 (zAh 0 s.args ps).1,[],(zAh 0 s.args ps).2.1,(zAh 0 s.args ps).2.2⟩):zUA P fid s:=by
 intro w ps vs fs fl ms hA hnd hdis hpre hgl
 have h0:yO w.heap.size ms (fl++ms) [] (fun _=>⟨Value.bool false,[],[]⟩) (fun _=>[]) w:=
  ⟨fun _=>rfl,fun _ _ h=>(by cases h),fun _ _ h=>(by cases h),fun _ _ h=>(by cases h),fun _ _ h=>(by cases h),fun _ _ _ _ h=>(by cases h),fun _ _ h=>(by cases h),fun _ _ h=>(by cases h)⟩
 obtain⟨β,ϕ,⟨e1,e2,e3,e4,e5,e6,e7,e8,e9⟩,hold⟩:=zGE s.args ps vs fs fl ms 0 [] _ _ hA h0 (fun i hl h=>(by cases h)) rfl (fun b hb hm=>hdis b hm hb) (fun b hb=>by simp[hb]) (fun b hb=>⟨hb,by simp[hb]⟩) hnd (fun i hl h=>(by cases h))
 have hlen:=hA.lens
 have hlen2:(zAh 0 s.args ps).1.length=vs.length:=by rw[←e5,SV.vals_map];simp
 let fin:=zWl E outs s (zAh 0 s.args ps).1 ps
 let Rr:Ending→World→Prop:=fun e w'=>∃rvs,e=.returned (zQ0 rvs)∧Done w s ps vs fl ms rvs w'
 let C:Cx:=⟨P,E,fn.ntmps,w,ms,fl++ms,keep,(zAh 0 s.args ps).2.2,β,bodyPost P fn Rr,fin⟩
 have hfin:∀S a w',At C S a w'→fin S→a.defers=[]∧∃v,(results fn a.tmps).run P w'=.ok v w'∧Rr (.returned v) w':=by
  intro S a w' hat hS
  obtain⟨kp,hn,β1,ϕ1,sat,hsame⟩:=hat
  unfold fin zWl at hS
  split at hS
  ·exact hS.elim
  ·rename_i xs hxs
   obtain⟨hret,hS⟩:=hS
   let g:ResultVar→Sem Value:=fun r=>match r with | .tmp t=>pure (a.tmps.getD t undef) | .cell t ty=>asAddr (a.tmps.getD t undef) >>= fun x=>loadVar ty x
   obtain⟨v1,v2,v3,v4⟩:=zIB hE.ty sat g (fun _=>rfl) (fun _ _=>rfl) hxs
   refine⟨sat.df,_,zHz hr a.tmps w' g (fun _=>rfl) (fun _ _=>rfl) v1 (by simp[SV.vals_map,v4]),_,rfl,sat.fr,?_⟩
   have hsame1:SV.vals β1 (zAh 0 s.args ps).1=vs:=by
    rw[SV.vals_congr (fun k hk=>hsame k hk) _ e6];exact e5
   have hok1:SV.oks β1 (zAh 0 s.args ps).1:=SV.oks_congr (fun k hk=>hsame k hk) _ e6 e7
   cases hfs:s.fresh with
   | true=>
    rw[hfs] at hS
    simp only[if_true] at hS
    obtain⟨f0,f1,f2⟩:=hS
    obtain⟨ϕ2,p1,p2,_⟩:=zKK (zE9 xs++zNO S.A s.args (zAh 0 s.args ps).1) sat.hp sat.hb
    unfold zbv at f2
    split at f2
    ·rename_i o rs o' qs hrs hqs
     obtain⟨g1,g2,g3,g4,g5⟩:=f2
     obtain⟨g6,g7⟩:=zI6.1 g5
     have hR:=zS4 hrs g1 p1 v2 g6 hret
     obtain⟨hO,hLt⟩:=zH0 (w':=w) hqs g3 p1 hok1 (fun i o t cs hi=>(p2 _ _ hi).2.2) g7 f0 (hold.congr hsame e6)
     rw[hsame1,g4] at hO
     rw[g2] at hR
     have hLents:∀h∈zE9 xs++zSo (zFE S.A (zE9 xs++zNO S.A s.args (zAh 0 s.args ps).1)) s.args (zAh 0 s.args ps).1,zdi (zFE S.A (zE9 xs++zNO S.A s.args (zAh 0 s.args ps).1)) ϕ2 h:=by
      intro h hh
      rcases List.mem_append.1 hh with hh | hh
      ·exact zSE p1 (zGS.1 g6 h hh)
      ·exact hLt h hh
     refine .inl ⟨rfl,_,_,hR,hO,?_,?_⟩
     ·rw[←List.flatten_append,←List.map_append]
      exact zP5 p1 hLents (zSB.1 f1)
     ·rw[←List.flatten_append,←List.map_append]
      intro b hb
      obtain⟨i,hi,hl,e1,e2⟩:=zNQ hLents b hb
      exact p1.own i _ e1 b e2
    ·exact f2.elim
   | false=>
    rw[hfs] at hS
    simp only[Bool.false_eq_true,if_false] at hS
    obtain⟨f1,f2⟩:=hS
    split at f2
    ·rename_i o rs hrs
     obtain⟨g1,g2⟩:=f2
     obtain⟨f,q1,q2⟩:=zS3 hrs g1 sat.hp v2 hret
     rw[g2] at q1
     have hms:=hA.rdms f1
     refine .inr ⟨rfl,f1,f,q1,fun b hb=>?_⟩
     have:=q2 b hb
     have hF:C.F=fl++ms:=rfl
     rw[hF,hms,List.append_nil] at this
     exact this
    ·exact f2.elim
 have hC:C.Ok:=⟨hE,hm,fun S a w' hat hS=>⟨hfin S a w' hat hS,hfin S a w' hat hS⟩,fun c a d v w h=>⟨by have h1:=h.1;cases d<;>exact h1,h.2⟩⟩
 refine calls_of_wp hf hb ?_
 have hW:=h ps hA.ty hpre (WP C) (zNB hC) (hG C hC rfl rfl rfl)
 refine hW _ w ⟨⟨?_,fun t x h=>(by cases h)⟩,Nat.le_refl _,β,ϕ,⟨rfl,?_,?_,fun t g v h=>(by cases h),by simpa using e1,(by simpa using e2:Bd _ _ _),Fr.refl _ _,hgl⟩,fun h _=>rfl⟩
 ·intro t v ht
  obtain⟨h1,h2⟩:=zUg ht
  obtain⟨h3,_⟩:=List.getElem?_eq_some_iff.1 h2
  exact hkeep t (by simp only[Nat.sub_zero] at h3;omega)
 ·show(vs.toArray++Array.replicate (fn.ntmps - vs.toArray.size) undef).size=fn.ntmps
  simp;omega
 ·intro t v ht
  obtain⟨_,h2⟩:=zUg ht
  simp only[Nat.sub_zero] at h2
  have hm1:=List.mem_of_getElem? h2
  refine⟨?_,SV.lts_iff.1 e6 v hm1,SV.oks_iff.1 e7 v hm1⟩
  obtain⟨h3,_⟩:=List.getElem?_eq_some_iff.1 h2
  show(vs.toArray++Array.replicate (fn.ntmps - vs.toArray.size) undef)[t]?=_
  rw[Array.getElem?_append_left (by simp;omega)]
  rw[←e5,SV.vals_map]
  simp[h2]
end
def zYR:TypeDesc→List (Nat × Nat)
 | .struct fs=>fs.toList.map fun f=>(f.offset,f.type)
 | _=>[]
def aggOf:TypeDesc→Bool
 | .struct _=>true
 | .array _ _=>true
 | _=>false
def lfB:PTy→Bool
 | .agg _=>false
 | .fn _ _=>false
 | _=>true
theorem yJ{P:Program}{t:TypeId}{ti:TI}{i:TypeInfo}{z:Value}(h1:P.underlying t=some ti.d)(h2:P.info? t=some i)(h3:i.size=ti.sz)(h4:i.bytes=ti.bytes)(h5:i.zero=some z)
  (h6:z.cells=(ti.leaves.map zKo).toArray) (h7:ti.agg=aggOf ti.d) (h8:ti.flds=zYR ti.d) (h9:(ti.flds.all fun f=>(P.info? f.2).isSome)=true) (h10:0 < ti.sz) (h11:0 < ti.bytes) (h12:ti.agg=false→ti.sz=1)
  (h13:ti.leaves.all lfB=true) (h14:ti.eqb=true→P.stoodInHeld t=false∧P.eqGuardType P.depth t=false):zDK P t ti:=by
 refine⟨h1,⟨i,h2,h3,h4,z,h5,h6⟩,?_,?_,?_,h10,h11,h12,fun t ht=>?_,fun t ht f l e=>?_,h14⟩
 ·rw[h7];cases ti.d<;>rfl
 ·intro f off ft hf
  rw[h8] at hf
  cases hd:ti.d<;>rw[hd] at hf<;>simp only[zYR,List.getElem?_nil,reduceCtorEq] at hf
  rename_i fs
  simp only[List.getElem?_map,Option.map_eq_some_iff,Array.getElem?_toList,Prod.mk.injEq] at hf
  obtain⟨fd,h,h1,h2⟩:=hf
  exact⟨fs,fd,rfl,h,h1,h2⟩
 ·intro fs hd f hf
  rw[h8,hd] at h9
  have:=List.all_eq_true.1 h9 (f.offset,f.type) (by simp only[zYR,List.mem_map];exact⟨f,by simpa using hf,rfl⟩)
  exact Option.isSome_iff_exists.1 this
 ·have:=List.all_eq_true.1 h13 t ht
  cases t<;>first | rfl | (simp[lfB] at this)
 ·have:=List.all_eq_true.1 h13 t ht
  subst e
  simp[lfB] at this
def zh(P:Program)(f:FuncId)(s:zJ):Prop:=zUA P f s∧∃fn,P.funcs[f]?=some fn∧fn.body.isNone=false∧(fn.name == "runtime.NumGoroutine")=false
theorem zD{P:Program}{tab:List (Nat × TI)}(h:zFj P ⟨tab,[]⟩):zGf P ⟨tab,[]⟩:=⟨h,fun f cs s h=>(by cases h)⟩
theorem zA{P:Program}{tab:List (Nat × TI)}{l:List ((Nat × List Nat) × zJ)}{f:Nat}{cs:List Nat}{s:zJ}(hf:zh P f s)(h:zGf P ⟨tab,l⟩):zGf P ⟨tab,((f,cs),s) :: l⟩:=by
 refine⟨h.ty,fun g ds t hg=>?_⟩
 simp only[zL2] at hg
 split at hg
 ·rename_i e
  cases hg
  obtain⟨rfl,_⟩:=e
  exact hf
 ·exact h.fn g ds t hg
theorem zIU{P:Program}{E:Env}{fid:FuncId}{fn:Func}{c:Code}{s:zJ}(keep:List Nat)(outs:List ResultVar)(G:(List KI→St→Prop)→Prop)(hG:∀C:Cx,C.Ok→C.P=P→C.N=fn.ntmps→C.keep=keep→G (WP C))(hE:zGf P E)(hm:P.follows .mixedOrders=true)(hf:P.funcs[fid]?=some fn)(hb:fn.body=some c)
  (hn:(fn.name == "runtime.NumGoroutine")=false) (hr:fn.results=outs.toArray) (hp:s.args.length≤fn.ntmps) (hkeep:(List.range s.args.length).all (keep.contains ·)=true)
  (h:∀ps,TyA s.args ps→s.pre ps→∀W,zNn E fn.ntmps keep (zAh 0 s.args ps).2.2 (zWl E outs s (zAh 0 s.args ps).1 ps) W→G W →
   W [.code c] ⟨zbQ 0 (zAh 0 s.args ps).1,[],(zAh 0 s.args ps).2.1,(zAh 0 s.args ps).2.2⟩):zh P fid s:=
 ⟨zUd G hG hE hm hf hb hr hp (fun i hi=>List.all_eq_true.1 hkeep i (by simpa using hi)) h,fn,hf,by rw[hb];rfl,hn⟩
theorem zP{P:Program}{E:Env}{fid:FuncId}{fn:Func}{c:Code}{s:zJ}(keep:List Nat)(outs:List ResultVar)(hE:zGf P E)(hm:P.follows .mixedOrders=true)(hf:P.funcs[fid]?=some fn)(hb:fn.body=some c)
  (hn:(fn.name == "runtime.NumGoroutine")=false) (hr:fn.results=outs.toArray) (hp:s.args.length≤fn.ntmps) (hkeep:(List.range s.args.length).all (keep.contains ·)=true)
  (h:∀ps,TyA s.args ps→s.pre ps→∀W,zNn E fn.ntmps keep (zAh 0 s.args ps).2.2 (zWl E outs s (zAh 0 s.args ps).1 ps) W →
   W [.code c] ⟨zbQ 0 (zAh 0 s.args ps).1,[],(zAh 0 s.args ps).2.1,(zAh 0 s.args ps).2.2⟩):zh P fid s:=
 zIU keep outs (fun _=>True) (fun _ _ _ _ _=>trivial) hE hm hf hb hn hr hp hkeep fun ps h1 h2 W hW _=>h ps h1 h2 W hW
end
section
variable [zS]
def nth(es:List PV)(i:Nat):PV:=es.getD i PV.d
theorem zZU(es:List PV)(i:Nat):es.getD i PV.d=nth es i:=rfl
theorem zE(a:PV)(l:List PV):nth (a :: l) 0=a:=rfl
theorem zF(a:PV)(l:List PV)(n:Nat):nth (a :: l) (n+1)=nth l n:=rfl
theorem yp(k:IntKind)(n:Int):(PV.int k n).I=n:=rfl
theorem zNq(n:Bool):(PV.bool n).B=n:=rfl
theorem zEW(n:List UInt8):(PV.str n).S=n:=rfl
theorem zAA(n:List PV):(PV.list n).L=n:=rfl
theorem zBE(n:List PV):(PV.agg n).A=n:=rfl
theorem pv_at(p:PV)(i:Nat):p.at i=nth p.A i:=rfl
theorem zez(k:IntKind)(n:Int):(PV.int k n).leaves=[.int k n]:=rfl
theorem zbZ(n:Bool):(PV.bool n).leaves=[.bool n]:=rfl
theorem zey(n:List UInt8):(PV.str n).leaves=[.str n]:=rfl
theorem zbX(n:List PV):(PV.list n).leaves=[.list n]:=rfl
theorem ze0(n:List PV):(PV.agg n).leaves=n:=rfl
theorem zHX{es:List PV}{i:Nat}(h:i < es.length):nth es i=es[i]:=by simp[nth,h]
theorem zb{es:List PV}{i:Nat}(h:i < es.length):nth es i∈es:=by rw[zHX h];exact List.getElem_mem h
theorem zG{es:List PV}{i:Nat}(h:i < es.length):es.drop i=nth es i :: es.drop (i+1):=by
 rw[zHX h];exact(List.drop_eq_getElem_cons h)
theorem zd{es:List PV}{i:Nat}(h:i < es.length):es.take (i+1)=es.take i++[nth es i]:=by
 rw[zHX h];exact List.take_succ_eq_append_getElem h
theorem zC{n:Int}(h:-9223372036854775808≤n∧n≤9223372036854775807):IntKind.i64.wrap n=n:=by
 simp[IntKind.wrap,IntKind.signed,IntKind.bits];omega
theorem zW5{n:Int}(h:0≤n∧n≤9223372036854775807):IntKind.u64.wrap n=n:=by
 simp[IntKind.wrap,IntKind.signed,IntKind.bits];omega
theorem zHR{n:Int}:inR .i64 n↔-9223372036854775808≤n∧n≤9223372036854775807:=by
 simp[inR,IntKind.min,IntKind.max,IntKind.signed,IntKind.bits]
end
section
variable [zS]
noncomputable def T2:TI:=⟨false,[.int .i64],0,[],8,.int .i64,false⟩
theorem T2_ok:zDK Tryz.prog 2 T2:=yJ (i:=Tryz.t2) Tryz.underlying2 Tryz.type2 rfl rfl rfl rfl rfl rfl (by kernel_rfl) (by decide) (by decide) (by decide) rfl (fun h=>by cases h)
theorem T2_sz:T2.sz=1:=rfl
theorem zf4:T2.pty=.int .i64:=rfl
noncomputable def T3:TI:=⟨false,[.int .i64],0,[],8,.int .i64,false⟩
theorem T3_ok:zDK Tryz.prog 3 T3:=yJ (i:=Tryz.t3) Tryz.underlying3 Tryz.type3 rfl rfl rfl rfl rfl rfl (by kernel_rfl) (by decide) (by decide) (by decide) rfl (fun h=>by cases h)
theorem T3_sz:T3.sz=1:=rfl
theorem zfz:T3.pty=.int .i64:=rfl
noncomputable def T4:TI:=⟨false,[.bool],0,[],1,.bool,false⟩
theorem T4_ok:zDK Tryz.prog 4 T4:=yJ (i:=Tryz.t4) Tryz.underlying4 Tryz.type4 rfl rfl rfl rfl rfl rfl (by kernel_rfl) (by decide) (by decide) (by decide) rfl (fun h=>by cases h)
theorem T4_sz:T4.sz=1:=rfl
theorem zfk:T4.pty=.bool:=rfl
noncomputable def T5:TI:=⟨false,[.int .u8],0,[],1,.int .u8,false⟩
theorem T5_ok:zDK Tryz.prog 5 T5:=yJ (i:=Tryz.t5) Tryz.underlying5 Tryz.type5 rfl rfl rfl rfl rfl rfl (by kernel_rfl) (by decide) (by decide) (by decide) rfl (fun h=>by cases h)
theorem T5_sz:T5.sz=1:=rfl
theorem zff:T5.pty=.int .u8:=rfl
noncomputable def T6:TI:=⟨false,[.int .u8],0,[],1,.int .u8,false⟩
theorem T6_ok:zDK Tryz.prog 6 T6:=yJ (i:=Tryz.t6) Tryz.underlying6 Tryz.type6 rfl rfl rfl rfl rfl rfl (by kernel_rfl) (by decide) (by decide) (by decide) rfl (fun h=>by cases h)
theorem T6_sz:T6.sz=1:=rfl
theorem zfc:T6.pty=.int .u8:=rfl
noncomputable def T7:TI:=⟨true,[.int .i64,.int .i64,.bool,.int .u8],0,[(0,2),(1,3),(2,4),(3,6)],24,.struct (match Tryz.t7.desc with | .struct fs=>fs | _=>#[]),true⟩
theorem T7_ok:zDK Tryz.prog 7 T7:=yJ (i:=Tryz.t7) Tryz.underlying7 Tryz.type7 rfl rfl rfl rfl rfl rfl (by kernel_rfl) (by decide) (by decide) (by decide) rfl (fun _=>⟨Tryz.stoodInHeld7,Tryz.eqGuardType7⟩)
theorem T7_sz:T7.sz=4:=rfl
theorem zfP:T7.pty=.agg [.int .i64,.int .i64,.bool,.int .u8]:=rfl
noncomputable def T8:TI:=⟨true,[.int .i64,.int .i64,.bool,.int .u8],0,[(0,2),(1,3),(2,4),(3,6)],24,.struct (match Tryz.t7.desc with | .struct fs=>fs | _=>#[]),true⟩
theorem T8_ok:zDK Tryz.prog 8 T8:=yJ (i:=Tryz.t8) Tryz.underlying8 Tryz.type8 rfl rfl rfl rfl rfl rfl (by kernel_rfl) (by decide) (by decide) (by decide) rfl (fun _=>⟨Tryz.stoodInHeld8,Tryz.eqGuardType8⟩)
theorem T8_sz:T8.sz=4:=rfl
theorem zfO:T8.pty=.agg [.int .i64,.int .i64,.bool,.int .u8]:=rfl
noncomputable def T9:TI:=⟨false,[.str],0,[],16,.string,false⟩
theorem T9_ok:zDK Tryz.prog 9 T9:=yJ (i:=Tryz.t9) Tryz.underlying9 Tryz.type9 rfl rfl rfl rfl rfl rfl (by kernel_rfl) (by decide) (by decide) (by decide) rfl (fun h=>by cases h)
theorem T9_sz:T9.sz=1:=rfl
theorem zfN:T9.pty=.str:=rfl
noncomputable def T10:TI:=⟨false,[.str],0,[],16,.string,false⟩
theorem zge:zDK Tryz.prog 10 T10:=yJ (i:=Tryz.t10) Tryz.underlying10 Tryz.type10 rfl rfl rfl rfl rfl rfl (by kernel_rfl) (by decide) (by decide) (by decide) rfl (fun h=>by cases h)
theorem zgd:T10.sz=1:=rfl
theorem zdb:T10.pty=.str:=rfl
noncomputable def T11:TI:=⟨false,[.str],0,[],16,.string,false⟩
theorem zgc:zDK Tryz.prog 11 T11:=yJ (i:=Tryz.t11) Tryz.underlying11 Tryz.type11 rfl rfl rfl rfl rfl rfl (by kernel_rfl) (by decide) (by decide) (by decide) rfl (fun h=>by cases h)
theorem zgb:T11.sz=1:=rfl
theorem zdY:T11.pty=.str:=rfl
noncomputable def T12:TI:=⟨false,[.int .u64],0,[],8,.int .u64,false⟩
theorem zga:zDK Tryz.prog 12 T12:=yJ (i:=Tryz.t12) Tryz.underlying12 Tryz.type12 rfl rfl rfl rfl rfl rfl (by kernel_rfl) (by decide) (by decide) (by decide) rfl (fun h=>by cases h)
theorem zgZ:T12.sz=1:=rfl
theorem zdN:T12.pty=.int .u64:=rfl
noncomputable def T13:TI:=⟨true,[.str,.int .u64],0,[(0,9),(1,12)],24,.struct (match Tryz.t13.desc with | .struct fs=>fs | _=>#[]),false⟩
theorem zgY:zDK Tryz.prog 13 T13:=yJ (i:=Tryz.t13) Tryz.underlying13 Tryz.type13 rfl rfl rfl rfl rfl rfl (by kernel_rfl) (by decide) (by decide) (by decide) rfl (fun h=>by cases h)
theorem zgX:T13.sz=2:=rfl
theorem zdG:T13.pty=.agg [.str,.int .u64]:=rfl
noncomputable def T14:TI:=⟨true,[.str,.int .u64],0,[(0,9),(1,12)],24,.struct (match Tryz.t13.desc with | .struct fs=>fs | _=>#[]),false⟩
theorem zgW:zDK Tryz.prog 14 T14:=yJ (i:=Tryz.t14) Tryz.underlying14 Tryz.type14 rfl rfl rfl rfl rfl rfl (by kernel_rfl) (by decide) (by decide) (by decide) rfl (fun h=>by cases h)
theorem zgV:T14.sz=2:=rfl
theorem zdB:T14.pty=.agg [.str,.int .u64]:=rfl
noncomputable def T15:TI:=⟨false,[.opq],0,[],8,.pointer 248,false⟩
theorem zgU:zDK Tryz.prog 15 T15:=yJ (i:=Tryz.t15) Tryz.underlying15 Tryz.type15 rfl rfl rfl rfl rfl rfl (by kernel_rfl) (by decide) (by decide) (by decide) rfl (fun h=>by cases h)
theorem zgT:T15.sz=1:=rfl
theorem zdA:T15.pty=.opq:=rfl
noncomputable def T16:TI:=⟨false,[.opq],0,[],8,.pointer 251,false⟩
theorem zgS:zDK Tryz.prog 16 T16:=yJ (i:=Tryz.t16) Tryz.underlying16 Tryz.type16 rfl rfl rfl rfl rfl rfl (by kernel_rfl) (by decide) (by decide) (by decide) rfl (fun h=>by cases h)
theorem zgR:T16.sz=1:=rfl
theorem zc3:T16.pty=.opq:=rfl
noncomputable def T17:TI:=⟨false,[.opq],0,[],8,.pointer 258,false⟩
theorem zgQ:zDK Tryz.prog 17 T17:=yJ (i:=Tryz.t17) Tryz.underlying17 Tryz.type17 rfl rfl rfl rfl rfl rfl (by kernel_rfl) (by decide) (by decide) (by decide) rfl (fun h=>by cases h)
theorem zgP:T17.sz=1:=rfl
theorem zc2:T17.pty=.opq:=rfl
noncomputable def T18:TI:=⟨true,[.opq],0,[(0,17)],8,.struct (match Tryz.t18.desc with | .struct fs=>fs | _=>#[]),false⟩
theorem zgO:zDK Tryz.prog 18 T18:=yJ (i:=Tryz.t18) Tryz.underlying18 Tryz.type18 rfl rfl rfl rfl rfl rfl (by kernel_rfl) (by decide) (by decide) (by decide) rfl (fun h=>by cases h)
theorem zgN:T18.sz=1:=rfl
theorem zc1:T18.pty=.agg [.opq]:=rfl
noncomputable def T19:TI:=⟨true,[.opq],0,[(0,17)],8,.struct (match Tryz.t18.desc with | .struct fs=>fs | _=>#[]),false⟩
theorem zgM:zDK Tryz.prog 19 T19:=yJ (i:=Tryz.t19) Tryz.underlying19 Tryz.type19 rfl rfl rfl rfl rfl rfl (by kernel_rfl) (by decide) (by decide) (by decide) rfl (fun h=>by cases h)
theorem zgL:T19.sz=1:=rfl
theorem zcy:T19.pty=.agg [.opq]:=rfl
noncomputable def T21:TI:=⟨false,[.int .i32],0,[],4,.int .i32,false⟩
theorem zgK:zDK Tryz.prog 21 T21:=yJ (i:=Tryz.t21) Tryz.underlying21 Tryz.type21 rfl rfl rfl rfl rfl rfl (by kernel_rfl) (by decide) (by decide) (by decide) rfl (fun h=>by cases h)
theorem zgJ:T21.sz=1:=rfl
theorem zcr:T21.pty=.int .i32:=rfl
noncomputable def T22:TI:=⟨false,[.list (.agg [.int .i64,.int .i64,.int .i64,.int .i64,.str])],48,[],24,.slice 48,false⟩
theorem zgI:zDK Tryz.prog 22 T22:=yJ (i:=Tryz.t22) Tryz.underlying22 Tryz.type22 rfl rfl rfl rfl rfl rfl (by kernel_rfl) (by decide) (by decide) (by decide) rfl (fun h=>by cases h)
theorem zgH:T22.sz=1:=rfl
theorem zco:T22.pty=.list (.agg [.int .i64,.int .i64,.int .i64,.int .i64,.str]):=rfl
noncomputable def T24:TI:=⟨false,[.list (.agg [.int .i64,.int .i64,.int .i64,.int .i64,.int .i64,.bool,.list (.agg [.int .i64,.str]),.int .i64,.int .i64,.int .i64,.list (.int .i64),.list (.int .i64),.list (.int .i64)])],77,[],24,.slice 77,false⟩
theorem zgG:zDK Tryz.prog 24 T24:=yJ (i:=Tryz.t24) Tryz.underlying24 Tryz.type24 rfl rfl rfl rfl rfl rfl (by kernel_rfl) (by decide) (by decide) (by decide) rfl (fun h=>by cases h)
theorem zgF:T24.sz=1:=rfl
theorem zch:T24.pty=.list (.agg [.int .i64,.int .i64,.int .i64,.int .i64,.int .i64,.bool,.list (.agg [.int .i64,.str]),.int .i64,.int .i64,.int .i64,.list (.int .i64),.list (.int .i64),.list (.int .i64)]):=rfl
noncomputable def T25:TI:=⟨false,[.list (.agg [.str,.int .i64])],73,[],24,.slice 73,false⟩
theorem zgE:zDK Tryz.prog 25 T25:=yJ (i:=Tryz.t25) Tryz.underlying25 Tryz.type25 rfl rfl rfl rfl rfl rfl (by kernel_rfl) (by decide) (by decide) (by decide) rfl (fun h=>by cases h)
theorem zgD:T25.sz=1:=rfl
theorem zcY:T25.pty=.list (.agg [.str,.int .i64]):=rfl
noncomputable def T26:TI:=⟨false,[.list (.agg [.int .i64,.int .i64,.int .i64,.int .i64,.int .i64,.int .i64,.int .i64,.bool,.list (.agg [.int .i64,.str])])],120,[],24,.slice 120,false⟩
theorem zgC:zDK Tryz.prog 26 T26:=yJ (i:=Tryz.t26) Tryz.underlying26 Tryz.type26 rfl rfl rfl rfl rfl rfl (by kernel_rfl) (by decide) (by decide) (by decide) rfl (fun h=>by cases h)
theorem zgB:T26.sz=1:=rfl
theorem zcX:T26.pty=.list (.agg [.int .i64,.int .i64,.int .i64,.int .i64,.int .i64,.int .i64,.int .i64,.bool,.list (.agg [.int .i64,.str])]):=rfl
noncomputable def T27:TI:=⟨false,[.list (.str)],9,[],24,.slice 9,false⟩
theorem zgA:zDK Tryz.prog 27 T27:=yJ (i:=Tryz.t27) Tryz.underlying27 Tryz.type27 rfl rfl rfl rfl rfl rfl (by kernel_rfl) (by decide) (by decide) (by decide) rfl (fun h=>by cases h)
theorem zf9:T27.sz=1:=rfl
theorem zcW:T27.pty=.list (.str):=rfl
noncomputable def T28:TI:=⟨true,[.list (.agg [.int .i64,.int .i64,.int .i64,.int .i64,.int .i64,.bool,.list (.agg [.int .i64,.str]),.int .i64,.int .i64,.int .i64,.list (.int .i64),.list (.int .i64),.list (.int .i64)]),.list (.agg [.str,.int .i64]),.list (.agg [.int .i64,.int .i64,.int .i64,.int .i64,.int .i64,.int .i64,.int .i64,.bool,.list (.agg [.int .i64,.str])]),.list (.str)],0,[(0,24),(1,25),(2,26),(3,27)],96,.struct (match Tryz.t28.desc with | .struct fs=>fs | _=>#[]),false⟩
theorem zf8:zDK Tryz.prog 28 T28:=yJ (i:=Tryz.t28) Tryz.underlying28 Tryz.type28 rfl rfl rfl rfl rfl rfl (by kernel_rfl) (by decide) (by decide) (by decide) rfl (fun h=>by cases h)
theorem zf7:T28.sz=4:=rfl
theorem zcV:T28.pty=.agg [.list (.agg [.int .i64,.int .i64,.int .i64,.int .i64,.int .i64,.bool,.list (.agg [.int .i64,.str]),.int .i64,.int .i64,.int .i64,.list (.int .i64),.list (.int .i64),.list (.int .i64)]),.list (.agg [.str,.int .i64]),.list (.agg [.int .i64,.int .i64,.int .i64,.int .i64,.int .i64,.int .i64,.int .i64,.bool,.list (.agg [.int .i64,.str])]),.list (.str)]:=rfl
noncomputable def T29:TI:=⟨true,[.list (.agg [.int .i64,.int .i64,.int .i64,.int .i64,.int .i64,.bool,.list (.agg [.int .i64,.str]),.int .i64,.int .i64,.int .i64,.list (.int .i64),.list (.int .i64),.list (.int .i64)]),.list (.agg [.str,.int .i64]),.list (.agg [.int .i64,.int .i64,.int .i64,.int .i64,.int .i64,.int .i64,.int .i64,.bool,.list (.agg [.int .i64,.str])]),.list (.str)],0,[(0,24),(1,25),(2,26),(3,27)],96,.struct (match Tryz.t28.desc with | .struct fs=>fs | _=>#[]),false⟩
theorem zf6:zDK Tryz.prog 29 T29:=yJ (i:=Tryz.t29) Tryz.underlying29 Tryz.type29 rfl rfl rfl rfl rfl rfl (by kernel_rfl) (by decide) (by decide) (by decide) rfl (fun h=>by cases h)
theorem zf5:T29.sz=4:=rfl
theorem zcU:T29.pty=.agg [.list (.agg [.int .i64,.int .i64,.int .i64,.int .i64,.int .i64,.bool,.list (.agg [.int .i64,.str]),.int .i64,.int .i64,.int .i64,.list (.int .i64),.list (.int .i64),.list (.int .i64)]),.list (.agg [.str,.int .i64]),.list (.agg [.int .i64,.int .i64,.int .i64,.int .i64,.int .i64,.int .i64,.int .i64,.bool,.list (.agg [.int .i64,.str])]),.list (.str)]:=rfl
noncomputable def T30:TI:=⟨false,[.list (.int .i64)],3,[],24,.slice 3,false⟩
theorem zf3:zDK Tryz.prog 30 T30:=yJ (i:=Tryz.t30) Tryz.underlying30 Tryz.type30 rfl rfl rfl rfl rfl rfl (by kernel_rfl) (by decide) (by decide) (by decide) rfl (fun h=>by cases h)
theorem zf2:T30.sz=1:=rfl
theorem zcT:T30.pty=.list (.int .i64):=rfl
noncomputable def T33:TI:=⟨false,[.list (.agg [.int .i64,.int .i64,.int .i64,.int .i64,.str])],54,[],24,.slice 54,false⟩
theorem zf1:zDK Tryz.prog 33 T33:=yJ (i:=Tryz.t33) Tryz.underlying33 Tryz.type33 rfl rfl rfl rfl rfl rfl (by kernel_rfl) (by decide) (by decide) (by decide) rfl (fun h=>by cases h)
theorem zf0:T33.sz=1:=rfl
theorem zcS:T33.pty=.list (.agg [.int .i64,.int .i64,.int .i64,.int .i64,.str]):=rfl
noncomputable def T42:TI:=⟨false,[.list (.agg [.int .i64,.int .i64,.int .i64,.int .i64,.int .i64,.bool,.list (.agg [.int .i64,.str]),.int .i64,.int .i64,.int .i64,.list (.int .i64),.list (.int .i64),.list (.int .i64)])],129,[],24,.slice 129,false⟩
theorem zfy:zDK Tryz.prog 42 T42:=yJ (i:=Tryz.t42) Tryz.underlying42 Tryz.type42 rfl rfl rfl rfl rfl rfl (by kernel_rfl) (by decide) (by decide) (by decide) rfl (fun h=>by cases h)
theorem zfx:T42.sz=1:=rfl
theorem zcR:T42.pty=.list (.agg [.int .i64,.int .i64,.int .i64,.int .i64,.int .i64,.bool,.list (.agg [.int .i64,.str]),.int .i64,.int .i64,.int .i64,.list (.int .i64),.list (.int .i64),.list (.int .i64)]):=rfl
noncomputable def T43:TI:=⟨false,[.list (.agg [.str,.int .i64])],131,[],24,.slice 131,false⟩
theorem zfw:zDK Tryz.prog 43 T43:=yJ (i:=Tryz.t43) Tryz.underlying43 Tryz.type43 rfl rfl rfl rfl rfl rfl (by kernel_rfl) (by decide) (by decide) (by decide) rfl (fun h=>by cases h)
theorem zfv:T43.sz=1:=rfl
theorem zcQ:T43.pty=.list (.agg [.str,.int .i64]):=rfl
noncomputable def T44:TI:=⟨false,[.list (.agg [.int .i64,.int .i64,.int .i64,.int .i64,.int .i64,.int .i64,.int .i64,.bool,.list (.agg [.int .i64,.str])])],134,[],24,.slice 134,false⟩
theorem zfu:zDK Tryz.prog 44 T44:=yJ (i:=Tryz.t44) Tryz.underlying44 Tryz.type44 rfl rfl rfl rfl rfl rfl (by kernel_rfl) (by decide) (by decide) (by decide) rfl (fun h=>by cases h)
theorem zft:T44.sz=1:=rfl
theorem zcP:T44.pty=.list (.agg [.int .i64,.int .i64,.int .i64,.int .i64,.int .i64,.int .i64,.int .i64,.bool,.list (.agg [.int .i64,.str])]):=rfl
noncomputable def T45:TI:=⟨true,[.list (.agg [.int .i64,.int .i64,.int .i64,.int .i64,.int .i64,.bool,.list (.agg [.int .i64,.str]),.int .i64,.int .i64,.int .i64,.list (.int .i64),.list (.int .i64),.list (.int .i64)]),.list (.agg [.str,.int .i64]),.list (.agg [.int .i64,.int .i64,.int .i64,.int .i64,.int .i64,.int .i64,.int .i64,.bool,.list (.agg [.int .i64,.str])]),.list (.str)],0,[(0,42),(1,43),(2,44),(3,27)],96,.struct (match Tryz.t45.desc with | .struct fs=>fs | _=>#[]),false⟩
theorem zfs:zDK Tryz.prog 45 T45:=yJ (i:=Tryz.t45) Tryz.underlying45 Tryz.type45 rfl rfl rfl rfl rfl rfl (by kernel_rfl) (by decide) (by decide) (by decide) rfl (fun h=>by cases h)
theorem zfr:T45.sz=4:=rfl
theorem zcO:T45.pty=.agg [.list (.agg [.int .i64,.int .i64,.int .i64,.int .i64,.int .i64,.bool,.list (.agg [.int .i64,.str]),.int .i64,.int .i64,.int .i64,.list (.int .i64),.list (.int .i64),.list (.int .i64)]),.list (.agg [.str,.int .i64]),.list (.agg [.int .i64,.int .i64,.int .i64,.int .i64,.int .i64,.int .i64,.int .i64,.bool,.list (.agg [.int .i64,.str])]),.list (.str)]:=rfl
noncomputable def T46:TI:=⟨true,[.list (.agg [.int .i64,.int .i64,.int .i64,.int .i64,.int .i64,.bool,.list (.agg [.int .i64,.str]),.int .i64,.int .i64,.int .i64,.list (.int .i64),.list (.int .i64),.list (.int .i64)]),.list (.agg [.str,.int .i64]),.list (.agg [.int .i64,.int .i64,.int .i64,.int .i64,.int .i64,.int .i64,.int .i64,.bool,.list (.agg [.int .i64,.str])]),.list (.str)],0,[(0,42),(1,43),(2,44),(3,27)],96,.struct (match Tryz.t45.desc with | .struct fs=>fs | _=>#[]),false⟩
theorem zfq:zDK Tryz.prog 46 T46:=yJ (i:=Tryz.t46) Tryz.underlying46 Tryz.type46 rfl rfl rfl rfl rfl rfl (by kernel_rfl) (by decide) (by decide) (by decide) rfl (fun h=>by cases h)
theorem zfp:T46.sz=4:=rfl
theorem zcN:T46.pty=.agg [.list (.agg [.int .i64,.int .i64,.int .i64,.int .i64,.int .i64,.bool,.list (.agg [.int .i64,.str]),.int .i64,.int .i64,.int .i64,.list (.int .i64),.list (.int .i64),.list (.int .i64)]),.list (.agg [.str,.int .i64]),.list (.agg [.int .i64,.int .i64,.int .i64,.int .i64,.int .i64,.int .i64,.int .i64,.bool,.list (.agg [.int .i64,.str])]),.list (.str)]:=rfl
noncomputable def T47:TI:=⟨true,[.int .i64,.int .i64,.int .i64,.int .i64,.str],0,[(0,3),(1,3),(2,3),(3,3),(4,9)],48,.struct (match Tryz.t47.desc with | .struct fs=>fs | _=>#[]),true⟩
theorem zfo:zDK Tryz.prog 47 T47:=yJ (i:=Tryz.t47) Tryz.underlying47 Tryz.type47 rfl rfl rfl rfl rfl rfl (by kernel_rfl) (by decide) (by decide) (by decide) rfl (fun _=>⟨Tryz.stoodInHeld47,Tryz.eqGuardType47⟩)
theorem zfn:T47.sz=5:=rfl
theorem zcM:T47.pty=.agg [.int .i64,.int .i64,.int .i64,.int .i64,.str]:=rfl
noncomputable def T48:TI:=⟨true,[.int .i64,.int .i64,.int .i64,.int .i64,.str],0,[(0,3),(1,3),(2,3),(3,3),(4,9)],48,.struct (match Tryz.t47.desc with | .struct fs=>fs | _=>#[]),true⟩
theorem zfm:zDK Tryz.prog 48 T48:=yJ (i:=Tryz.t48) Tryz.underlying48 Tryz.type48 rfl rfl rfl rfl rfl rfl (by kernel_rfl) (by decide) (by decide) (by decide) rfl (fun _=>⟨Tryz.stoodInHeld48,Tryz.eqGuardType48⟩)
theorem zfl:T48.sz=5:=rfl
theorem zcL:T48.pty=.agg [.int .i64,.int .i64,.int .i64,.int .i64,.str]:=rfl
noncomputable def T54:TI:=⟨true,[.int .i64,.int .i64,.int .i64,.int .i64,.str],0,[(0,3),(1,3),(2,3),(3,3),(4,9)],48,.struct (match Tryz.t47.desc with | .struct fs=>fs | _=>#[]),true⟩
theorem zfj:zDK Tryz.prog 54 T54:=yJ (i:=Tryz.t54) Tryz.underlying54 Tryz.type54 rfl rfl rfl rfl rfl rfl (by kernel_rfl) (by decide) (by decide) (by decide) rfl (fun _=>⟨Tryz.stoodInHeld54,Tryz.eqGuardType54⟩)
theorem zfi:T54.sz=5:=rfl
theorem zcK:T54.pty=.agg [.int .i64,.int .i64,.int .i64,.int .i64,.str]:=rfl
noncomputable def T59:TI:=⟨false,[.list (.int .u8)],5,[],24,.slice 5,false⟩
theorem zfh:zDK Tryz.prog 59 T59:=yJ (i:=Tryz.t59) Tryz.underlying59 Tryz.type59 rfl rfl rfl rfl rfl rfl (by kernel_rfl) (by decide) (by decide) (by decide) rfl (fun h=>by cases h)
theorem zfg:T59.sz=1:=rfl
theorem zcJ:T59.pty=.list (.int .u8):=rfl
noncomputable def T69:TI:=⟨false,[.list (.agg [.int .i64,.str])],109,[],24,.slice 109,false⟩
theorem zfe:zDK Tryz.prog 69 T69:=yJ (i:=Tryz.t69) Tryz.underlying69 Tryz.type69 rfl rfl rfl rfl rfl rfl (by kernel_rfl) (by decide) (by decide) (by decide) rfl (fun h=>by cases h)
theorem zfd:T69.sz=1:=rfl
theorem zcI:T69.pty=.list (.agg [.int .i64,.str]):=rfl
noncomputable def T70:TI:=⟨true,[.int .i64,.int .i64,.list (.agg [.int .i64,.str])],0,[(0,3),(1,3),(2,69)],40,.struct (match Tryz.t70.desc with | .struct fs=>fs | _=>#[]),false⟩
theorem zfb:zDK Tryz.prog 70 T70:=yJ (i:=Tryz.t70) Tryz.underlying70 Tryz.type70 rfl rfl rfl rfl rfl rfl (by kernel_rfl) (by decide) (by decide) (by decide) rfl (fun h=>by cases h)
theorem zfa:T70.sz=3:=rfl
theorem zcH:T70.pty=.agg [.int .i64,.int .i64,.list (.agg [.int .i64,.str])]:=rfl
noncomputable def T71:TI:=⟨true,[.int .i64,.int .i64,.list (.agg [.int .i64,.str])],0,[(0,3),(1,3),(2,69)],40,.struct (match Tryz.t70.desc with | .struct fs=>fs | _=>#[]),false⟩
theorem zfZ:zDK Tryz.prog 71 T71:=yJ (i:=Tryz.t71) Tryz.underlying71 Tryz.type71 rfl rfl rfl rfl rfl rfl (by kernel_rfl) (by decide) (by decide) (by decide) rfl (fun h=>by cases h)
theorem zfY:T71.sz=3:=rfl
theorem zcG:T71.pty=.agg [.int .i64,.int .i64,.list (.agg [.int .i64,.str])]:=rfl
noncomputable def T72:TI:=⟨true,[.str,.int .i64],0,[(0,9),(1,3)],24,.struct (match Tryz.t72.desc with | .struct fs=>fs | _=>#[]),true⟩
theorem zfX:zDK Tryz.prog 72 T72:=yJ (i:=Tryz.t72) Tryz.underlying72 Tryz.type72 rfl rfl rfl rfl rfl rfl (by kernel_rfl) (by decide) (by decide) (by decide) rfl (fun _=>⟨Tryz.stoodInHeld72,Tryz.eqGuardType72⟩)
theorem zfW:T72.sz=2:=rfl
theorem zcF:T72.pty=.agg [.str,.int .i64]:=rfl
noncomputable def T73:TI:=⟨true,[.str,.int .i64],0,[(0,9),(1,3)],24,.struct (match Tryz.t72.desc with | .struct fs=>fs | _=>#[]),true⟩
theorem zfV:zDK Tryz.prog 73 T73:=yJ (i:=Tryz.t73) Tryz.underlying73 Tryz.type73 rfl rfl rfl rfl rfl rfl (by kernel_rfl) (by decide) (by decide) (by decide) rfl (fun _=>⟨Tryz.stoodInHeld73,Tryz.eqGuardType73⟩)
theorem zfU:T73.sz=2:=rfl
theorem zcE:T73.pty=.agg [.str,.int .i64]:=rfl
noncomputable def T76:TI:=⟨true,[.int .i64,.int .i64,.int .i64,.int .i64,.int .i64,.bool,.list (.agg [.int .i64,.str]),.int .i64,.int .i64,.int .i64,.list (.int .i64),.list (.int .i64),.list (.int .i64)],0,[(0,3),(1,3),(2,3),(3,3),(4,3),(5,4),(6,69),(7,3),(8,3),(9,3),(10,30),(11,30),(12,30)],168,.struct (match Tryz.t76.desc with | .struct fs=>fs | _=>#[]),false⟩
theorem zfT:zDK Tryz.prog 76 T76:=yJ (i:=Tryz.t76) Tryz.underlying76 Tryz.type76 rfl rfl rfl rfl rfl rfl (by kernel_rfl) (by decide) (by decide) (by decide) rfl (fun h=>by cases h)
theorem zfS:T76.sz=13:=rfl
theorem zcD:T76.pty=.agg [.int .i64,.int .i64,.int .i64,.int .i64,.int .i64,.bool,.list (.agg [.int .i64,.str]),.int .i64,.int .i64,.int .i64,.list (.int .i64),.list (.int .i64),.list (.int .i64)]:=rfl
noncomputable def T77:TI:=⟨true,[.int .i64,.int .i64,.int .i64,.int .i64,.int .i64,.bool,.list (.agg [.int .i64,.str]),.int .i64,.int .i64,.int .i64,.list (.int .i64),.list (.int .i64),.list (.int .i64)],0,[(0,3),(1,3),(2,3),(3,3),(4,3),(5,4),(6,69),(7,3),(8,3),(9,3),(10,30),(11,30),(12,30)],168,.struct (match Tryz.t76.desc with | .struct fs=>fs | _=>#[]),false⟩
theorem zfR:zDK Tryz.prog 77 T77:=yJ (i:=Tryz.t77) Tryz.underlying77 Tryz.type77 rfl rfl rfl rfl rfl rfl (by kernel_rfl) (by decide) (by decide) (by decide) rfl (fun h=>by cases h)
theorem zfQ:T77.sz=13:=rfl
theorem zcC:T77.pty=.agg [.int .i64,.int .i64,.int .i64,.int .i64,.int .i64,.bool,.list (.agg [.int .i64,.str]),.int .i64,.int .i64,.int .i64,.list (.int .i64),.list (.int .i64),.list (.int .i64)]:=rfl
noncomputable def zeO:TI:=⟨false,[.opq],0,[],8,.pointer 148,false⟩
theorem zdh:zDK Tryz.prog 103 zeO:=yJ (i:=Tryz.t103) Tryz.underlying103 Tryz.type103 rfl rfl rfl rfl rfl rfl (by kernel_rfl) (by decide) (by decide) (by decide) rfl (fun h=>by cases h)
theorem zdg:zeO.sz=1:=rfl
theorem zaZ:zeO.pty=.opq:=rfl
noncomputable def zeN:TI:=⟨true,[.int .i64,.str],0,[(0,3),(1,9)],24,.struct (match Tryz.t108.desc with | .struct fs=>fs | _=>#[]),true⟩
theorem zdf:zDK Tryz.prog 108 zeN:=yJ (i:=Tryz.t108) Tryz.underlying108 Tryz.type108 rfl rfl rfl rfl rfl rfl (by kernel_rfl) (by decide) (by decide) (by decide) rfl (fun _=>⟨Tryz.stoodInHeld108,Tryz.eqGuardType108⟩)
theorem zde:zeN.sz=2:=rfl
theorem zaY:zeN.pty=.agg [.int .i64,.str]:=rfl
noncomputable def zeM:TI:=⟨true,[.int .i64,.str],0,[(0,3),(1,9)],24,.struct (match Tryz.t108.desc with | .struct fs=>fs | _=>#[]),true⟩
theorem zdd:zDK Tryz.prog 109 zeM:=yJ (i:=Tryz.t109) Tryz.underlying109 Tryz.type109 rfl rfl rfl rfl rfl rfl (by kernel_rfl) (by decide) (by decide) (by decide) rfl (fun _=>⟨Tryz.stoodInHeld109,Tryz.eqGuardType109⟩)
theorem zdc:zeM.sz=2:=rfl
theorem zaX:zeM.pty=.agg [.int .i64,.str]:=rfl
noncomputable def zeL:TI:=⟨true,[.int .i64,.int .i64,.int .i64,.int .i64,.int .i64,.int .i64,.int .i64,.bool,.list (.agg [.int .i64,.str])],0,[(0,3),(1,3),(2,3),(3,3),(4,3),(5,3),(6,3),(7,4),(8,69)],88,.struct (match Tryz.t119.desc with | .struct fs=>fs | _=>#[]),false⟩
theorem zda:zDK Tryz.prog 119 zeL:=yJ (i:=Tryz.t119) Tryz.underlying119 Tryz.type119 rfl rfl rfl rfl rfl rfl (by kernel_rfl) (by decide) (by decide) (by decide) rfl (fun h=>by cases h)
theorem zdZ:zeL.sz=9:=rfl
theorem zaW:zeL.pty=.agg [.int .i64,.int .i64,.int .i64,.int .i64,.int .i64,.int .i64,.int .i64,.bool,.list (.agg [.int .i64,.str])]:=rfl
noncomputable def zeK:TI:=⟨true,[.int .i64,.int .i64,.int .i64,.int .i64,.int .i64,.int .i64,.int .i64,.bool,.list (.agg [.int .i64,.str])],0,[(0,3),(1,3),(2,3),(3,3),(4,3),(5,3),(6,3),(7,4),(8,69)],88,.struct (match Tryz.t119.desc with | .struct fs=>fs | _=>#[]),false⟩
theorem zdX:zDK Tryz.prog 120 zeK:=yJ (i:=Tryz.t120) Tryz.underlying120 Tryz.type120 rfl rfl rfl rfl rfl rfl (by kernel_rfl) (by decide) (by decide) (by decide) rfl (fun h=>by cases h)
theorem zdW:zeK.sz=9:=rfl
theorem zaV:zeK.pty=.agg [.int .i64,.int .i64,.int .i64,.int .i64,.int .i64,.int .i64,.int .i64,.bool,.list (.agg [.int .i64,.str])]:=rfl
noncomputable def zeJ:TI:=⟨false,[.opq],0,[],8,.pointer 29,false⟩
theorem zdV:zDK Tryz.prog 122 zeJ:=yJ (i:=Tryz.t122) Tryz.underlying122 Tryz.type122 rfl rfl rfl rfl rfl rfl (by kernel_rfl) (by decide) (by decide) (by decide) rfl (fun h=>by cases h)
theorem zdU:zeJ.sz=1:=rfl
theorem zaU:zeJ.pty=.opq:=rfl
noncomputable def zeI:TI:=⟨false,[.list (.agg [.int .i64,.str])],211,[],24,.slice 211,false⟩
theorem zdT:zDK Tryz.prog 127 zeI:=yJ (i:=Tryz.t127) Tryz.underlying127 Tryz.type127 rfl rfl rfl rfl rfl rfl (by kernel_rfl) (by decide) (by decide) (by decide) rfl (fun h=>by cases h)
theorem zdS:zeI.sz=1:=rfl
theorem zaT:zeI.pty=.list (.agg [.int .i64,.str]):=rfl
noncomputable def zeH:TI:=⟨true,[.int .i64,.int .i64,.int .i64,.int .i64,.int .i64,.bool,.list (.agg [.int .i64,.str]),.int .i64,.int .i64,.int .i64,.list (.int .i64),.list (.int .i64),.list (.int .i64)],0,[(0,3),(1,3),(2,3),(3,3),(4,3),(5,4),(6,127),(7,3),(8,3),(9,3),(10,30),(11,30),(12,30)],168,.struct (match Tryz.t128.desc with | .struct fs=>fs | _=>#[]),false⟩
theorem zdR:zDK Tryz.prog 128 zeH:=yJ (i:=Tryz.t128) Tryz.underlying128 Tryz.type128 rfl rfl rfl rfl rfl rfl (by kernel_rfl) (by decide) (by decide) (by decide) rfl (fun h=>by cases h)
theorem zdQ:zeH.sz=13:=rfl
theorem zaS:zeH.pty=.agg [.int .i64,.int .i64,.int .i64,.int .i64,.int .i64,.bool,.list (.agg [.int .i64,.str]),.int .i64,.int .i64,.int .i64,.list (.int .i64),.list (.int .i64),.list (.int .i64)]:=rfl
noncomputable def zeG:TI:=⟨true,[.int .i64,.int .i64,.int .i64,.int .i64,.int .i64,.bool,.list (.agg [.int .i64,.str]),.int .i64,.int .i64,.int .i64,.list (.int .i64),.list (.int .i64),.list (.int .i64)],0,[(0,3),(1,3),(2,3),(3,3),(4,3),(5,4),(6,127),(7,3),(8,3),(9,3),(10,30),(11,30),(12,30)],168,.struct (match Tryz.t128.desc with | .struct fs=>fs | _=>#[]),false⟩
theorem zdP:zDK Tryz.prog 129 zeG:=yJ (i:=Tryz.t129) Tryz.underlying129 Tryz.type129 rfl rfl rfl rfl rfl rfl (by kernel_rfl) (by decide) (by decide) (by decide) rfl (fun h=>by cases h)
theorem zdO:zeG.sz=13:=rfl
theorem zaR:zeG.pty=.agg [.int .i64,.int .i64,.int .i64,.int .i64,.int .i64,.bool,.list (.agg [.int .i64,.str]),.int .i64,.int .i64,.int .i64,.list (.int .i64),.list (.int .i64),.list (.int .i64)]:=rfl
noncomputable def zeF:TI:=⟨true,[.str,.int .i64],0,[(0,9),(1,3)],24,.struct (match Tryz.t72.desc with | .struct fs=>fs | _=>#[]),true⟩
theorem zdM:zDK Tryz.prog 131 zeF:=yJ (i:=Tryz.t131) Tryz.underlying131 Tryz.type131 rfl rfl rfl rfl rfl rfl (by kernel_rfl) (by decide) (by decide) (by decide) rfl (fun _=>⟨Tryz.stoodInHeld131,Tryz.eqGuardType131⟩)
theorem zdL:zeF.sz=2:=rfl
theorem zaQ:zeF.pty=.agg [.str,.int .i64]:=rfl
noncomputable def zeE:TI:=⟨true,[.int .i64,.int .i64,.int .i64,.int .i64,.int .i64,.int .i64,.int .i64,.bool,.list (.agg [.int .i64,.str])],0,[(0,3),(1,3),(2,3),(3,3),(4,3),(5,3),(6,3),(7,4),(8,127)],88,.struct (match Tryz.t133.desc with | .struct fs=>fs | _=>#[]),false⟩
theorem zdK:zDK Tryz.prog 133 zeE:=yJ (i:=Tryz.t133) Tryz.underlying133 Tryz.type133 rfl rfl rfl rfl rfl rfl (by kernel_rfl) (by decide) (by decide) (by decide) rfl (fun h=>by cases h)
theorem zdJ:zeE.sz=9:=rfl
theorem zaP:zeE.pty=.agg [.int .i64,.int .i64,.int .i64,.int .i64,.int .i64,.int .i64,.int .i64,.bool,.list (.agg [.int .i64,.str])]:=rfl
noncomputable def zeD:TI:=⟨true,[.int .i64,.int .i64,.int .i64,.int .i64,.int .i64,.int .i64,.int .i64,.bool,.list (.agg [.int .i64,.str])],0,[(0,3),(1,3),(2,3),(3,3),(4,3),(5,3),(6,3),(7,4),(8,127)],88,.struct (match Tryz.t133.desc with | .struct fs=>fs | _=>#[]),false⟩
theorem zdI:zDK Tryz.prog 134 zeD:=yJ (i:=Tryz.t134) Tryz.underlying134 Tryz.type134 rfl rfl rfl rfl rfl rfl (by kernel_rfl) (by decide) (by decide) (by decide) rfl (fun h=>by cases h)
theorem zdH:zeD.sz=9:=rfl
theorem zaO:zeD.pty=.agg [.int .i64,.int .i64,.int .i64,.int .i64,.int .i64,.int .i64,.int .i64,.bool,.list (.agg [.int .i64,.str])]:=rfl
noncomputable def zeC:TI:=⟨true,[.list (.int .u8),.int .i64,.int .i64],0,[(0,59),(1,3),(2,3)],40,.struct (match Tryz.t147.desc with | .struct fs=>fs | _=>#[]),false⟩
theorem zdF:zDK Tryz.prog 147 zeC:=yJ (i:=Tryz.t147) Tryz.underlying147 Tryz.type147 rfl rfl rfl rfl rfl rfl (by kernel_rfl) (by decide) (by decide) (by decide) rfl (fun h=>by cases h)
theorem zdE:zeC.sz=3:=rfl
theorem zaN:zeC.pty=.agg [.list (.int .u8),.int .i64,.int .i64]:=rfl
noncomputable def zeB:TI:=⟨true,[.list (.int .u8),.int .i64,.int .i64],0,[(0,59),(1,3),(2,3)],40,.struct (match Tryz.t147.desc with | .struct fs=>fs | _=>#[]),false⟩
theorem zdD:zDK Tryz.prog 148 zeB:=yJ (i:=Tryz.t148) Tryz.underlying148 Tryz.type148 rfl rfl rfl rfl rfl rfl (by kernel_rfl) (by decide) (by decide) (by decide) rfl (fun h=>by cases h)
theorem zdC:zeB.sz=3:=rfl
theorem zaM:zeB.pty=.agg [.list (.int .u8),.int .i64,.int .i64]:=rfl
noncomputable def zeA:TI:=⟨false,[.opq],0,[],8,.pointer 164,false⟩
theorem zc9:zDK Tryz.prog 162 zeA:=yJ (i:=Tryz.t162) Tryz.underlying162 Tryz.type162 rfl rfl rfl rfl rfl rfl (by kernel_rfl) (by decide) (by decide) (by decide) rfl (fun h=>by cases h)
theorem zc8:zeA.sz=1:=rfl
theorem zaL:zeA.pty=.opq:=rfl
noncomputable def zd9:TI:=⟨true,[.int .i64,.int .i64,.int .i64,.int .i64,.int .i64,.bool,.list (.agg [.int .i64,.str]),.int .i64,.int .i64,.int .i64,.list (.int .i64),.list (.int .i64),.list (.int .i64),.list (.agg [.int .i64,.int .i64,.int .i64,.int .i64,.int .i64,.int .i64,.int .i64,.bool,.list (.agg [.int .i64,.str])])],0,[(0,77),(13,26)],192,.struct (match Tryz.t163.desc with | .struct fs=>fs | _=>#[]),false⟩
theorem zc7:zDK Tryz.prog 163 zd9:=yJ (i:=Tryz.t163) Tryz.underlying163 Tryz.type163 rfl rfl rfl rfl rfl rfl (by kernel_rfl) (by decide) (by decide) (by decide) rfl (fun h=>by cases h)
theorem zc6:zd9.sz=14:=rfl
theorem zaK:zd9.pty=.agg [.int .i64,.int .i64,.int .i64,.int .i64,.int .i64,.bool,.list (.agg [.int .i64,.str]),.int .i64,.int .i64,.int .i64,.list (.int .i64),.list (.int .i64),.list (.int .i64),.list (.agg [.int .i64,.int .i64,.int .i64,.int .i64,.int .i64,.int .i64,.int .i64,.bool,.list (.agg [.int .i64,.str])])]:=rfl
noncomputable def zd8:TI:=⟨true,[.int .i64,.int .i64,.int .i64,.int .i64,.int .i64,.bool,.list (.agg [.int .i64,.str]),.int .i64,.int .i64,.int .i64,.list (.int .i64),.list (.int .i64),.list (.int .i64),.list (.agg [.int .i64,.int .i64,.int .i64,.int .i64,.int .i64,.int .i64,.int .i64,.bool,.list (.agg [.int .i64,.str])])],0,[(0,77),(13,26)],192,.struct (match Tryz.t163.desc with | .struct fs=>fs | _=>#[]),false⟩
theorem zc5:zDK Tryz.prog 164 zd8:=yJ (i:=Tryz.t164) Tryz.underlying164 Tryz.type164 rfl rfl rfl rfl rfl rfl (by kernel_rfl) (by decide) (by decide) (by decide) rfl (fun h=>by cases h)
theorem zc4:zd8.sz=14:=rfl
theorem zaJ:zd8.pty=.agg [.int .i64,.int .i64,.int .i64,.int .i64,.int .i64,.bool,.list (.agg [.int .i64,.str]),.int .i64,.int .i64,.int .i64,.list (.int .i64),.list (.int .i64),.list (.int .i64),.list (.agg [.int .i64,.int .i64,.int .i64,.int .i64,.int .i64,.int .i64,.int .i64,.bool,.list (.agg [.int .i64,.str])])]:=rfl
noncomputable def zd7:TI:=⟨false,[.opq],0,[],8,.pointer 77,false⟩
theorem zc0:zDK Tryz.prog 193 zd7:=yJ (i:=Tryz.t193) Tryz.underlying193 Tryz.type193 rfl rfl rfl rfl rfl rfl (by kernel_rfl) (by decide) (by decide) (by decide) rfl (fun h=>by cases h)
theorem zcz:zd7.sz=1:=rfl
theorem zaI:zd7.pty=.opq:=rfl
noncomputable def zd6:TI:=⟨true,[.int .i64,.str],0,[(0,3),(1,9)],24,.struct (match Tryz.t108.desc with | .struct fs=>fs | _=>#[]),true⟩
theorem zcx:zDK Tryz.prog 211 zd6:=yJ (i:=Tryz.t211) Tryz.underlying211 Tryz.type211 rfl rfl rfl rfl rfl rfl (by kernel_rfl) (by decide) (by decide) (by decide) rfl (fun _=>⟨Tryz.stoodInHeld211,Tryz.eqGuardType211⟩)
theorem zcw:zd6.sz=2:=rfl
theorem zaH:zd6.pty=.agg [.int .i64,.str]:=rfl
noncomputable def zd5:TI:=⟨false,[.int .u64],0,[],8,.int .u64,false⟩
theorem zcv:zDK Tryz.prog 216 zd5:=yJ (i:=Tryz.t216) Tryz.underlying216 Tryz.type216 rfl rfl rfl rfl rfl rfl (by kernel_rfl) (by decide) (by decide) (by decide) rfl (fun h=>by cases h)
theorem zcu:zd5.sz=1:=rfl
theorem zaG:zd5.pty=.int .u64:=rfl
noncomputable def zd4:TI:=⟨false,[.int .u32],0,[],4,.int .u32,false⟩
theorem zct:zDK Tryz.prog 217 zd4:=yJ (i:=Tryz.t217) Tryz.underlying217 Tryz.type217 rfl rfl rfl rfl rfl rfl (by kernel_rfl) (by decide) (by decide) (by decide) rfl (fun h=>by cases h)
theorem zcs:zd4.sz=1:=rfl
theorem zaF:zd4.pty=.int .u32:=rfl
noncomputable def zd3:TI:=⟨false,[.opq],0,[],8,.pointer 5,false⟩
theorem zcq:zDK Tryz.prog 229 zd3:=yJ (i:=Tryz.t229) Tryz.underlying229 Tryz.type229 rfl rfl rfl rfl rfl rfl (by kernel_rfl) (by decide) (by decide) (by decide) rfl (fun h=>by cases h)
theorem zcp:zd3.sz=1:=rfl
theorem zaE:zd3.pty=.opq:=rfl
noncomputable def zd2:TI:=⟨false,[.int .u64],0,[],8,.int .u64,false⟩
theorem zcn:zDK Tryz.prog 243 zd2:=yJ (i:=Tryz.t243) Tryz.underlying243 Tryz.type243 rfl rfl rfl rfl rfl rfl (by kernel_rfl) (by decide) (by decide) (by decide) rfl (fun h=>by cases h)
theorem zcm:zd2.sz=1:=rfl
theorem zaD:zd2.pty=.int .u64:=rfl
noncomputable def zd1:TI:=⟨true,[.opq,.opq,.opq,.str],0,[(0,17),(1,17),(2,17),(3,9)],40,.struct (match Tryz.t247.desc with | .struct fs=>fs | _=>#[]),false⟩
theorem zcl:zDK Tryz.prog 247 zd1:=yJ (i:=Tryz.t247) Tryz.underlying247 Tryz.type247 rfl rfl rfl rfl rfl rfl (by kernel_rfl) (by decide) (by decide) (by decide) rfl (fun h=>by cases h)
theorem zck:zd1.sz=4:=rfl
theorem zaC:zd1.pty=.agg [.opq,.opq,.opq,.str]:=rfl
noncomputable def zd0:TI:=⟨true,[.opq,.opq,.opq,.str],0,[(0,17),(1,17),(2,17),(3,9)],40,.struct (match Tryz.t247.desc with | .struct fs=>fs | _=>#[]),false⟩
theorem zcj:zDK Tryz.prog 248 zd0:=yJ (i:=Tryz.t248) Tryz.underlying248 Tryz.type248 rfl rfl rfl rfl rfl rfl (by kernel_rfl) (by decide) (by decide) (by decide) rfl (fun h=>by cases h)
theorem zci:zd0.sz=4:=rfl
theorem zaB:zd0.pty=.agg [.opq,.opq,.opq,.str]:=rfl
noncomputable def zdz:TI:=⟨false,[.int .u8],0,[],1,.int .u8,false⟩
theorem zcg:zDK Tryz.prog 252 zdz:=yJ (i:=Tryz.t252) Tryz.underlying252 Tryz.type252 rfl rfl rfl rfl rfl rfl (by kernel_rfl) (by decide) (by decide) (by decide) rfl (fun h=>by cases h)
theorem zcf:zdz.sz=1:=rfl
theorem zaA:zdz.pty=.int .u8:=rfl
noncomputable def zdy:TI:=⟨false,[.int .u8],0,[],1,.int .u8,false⟩
theorem zce:zDK Tryz.prog 253 zdy:=yJ (i:=Tryz.t253) Tryz.underlying253 Tryz.type253 rfl rfl rfl rfl rfl rfl (by kernel_rfl) (by decide) (by decide) (by decide) rfl (fun h=>by cases h)
theorem zcd:zdy.sz=1:=rfl
theorem zZ9:zdy.pty=.int .u8:=rfl
noncomputable def zdx:TI:=⟨false,[.int .i32],0,[],4,.int .i32,false⟩
theorem zcc:zDK Tryz.prog 255 zdx:=yJ (i:=Tryz.t255) Tryz.underlying255 Tryz.type255 rfl rfl rfl rfl rfl rfl (by kernel_rfl) (by decide) (by decide) (by decide) rfl (fun h=>by cases h)
theorem zcb:zdx.sz=1:=rfl
theorem zZ8:zdx.pty=.int .i32:=rfl
noncomputable def zdw:TI:=⟨false,[.int .i32],0,[],4,.int .i32,false⟩
theorem zca:zDK Tryz.prog 256 zdw:=yJ (i:=Tryz.t256) Tryz.underlying256 Tryz.type256 rfl rfl rfl rfl rfl rfl (by kernel_rfl) (by decide) (by decide) (by decide) rfl (fun h=>by cases h)
theorem zcZ:zdw.sz=1:=rfl
theorem zZ7:zdw.pty=.int .i32:=rfl
noncomputable def zAo:List (Nat × TI):=[(2,T2),(3,T3),(4,T4),(5,T5),(6,T6),(7,T7),(8,T8),(9,T9),(10,T10),(11,T11),(12,T12),(13,T13),(14,T14),(15,T15),(16,T16),(17,T17),(18,T18),(19,T19),(21,T21),(22,T22),(24,T24),(25,T25),(26,T26),(27,T27),(28,T28),(29,T29),(30,T30),(33,T33),(42,T42),(43,T43),(44,T44),(45,T45),(46,T46),(47,T47),(48,T48),(54,T54),(59,T59),(69,T69),(70,T70),(71,T71),(72,T72),(73,T73),(76,T76),(77,T77),(103,zeO),(108,zeN),(109,zeM),(119,zeL),(120,zeK),(122,zeJ),(127,zeI),(128,zeH),(129,zeG),(131,zeF),(133,zeE),(134,zeD),(147,zeC),(148,zeB),(162,zeA),(163,zd9),(164,zd8),(193,zd7),(211,zd6),(216,zd5),(217,zd4),(229,zd3),(243,zd2),(247,zd1),(248,zd0),(252,zdz),(253,zdy),(255,zdx),(256,zdw)]
theorem ty2:lk zAo 2=some T2:=rfl
theorem ty3:lk zAo 3=some T3:=rfl
theorem ty4:lk zAo 4=some T4:=rfl
theorem ty5:lk zAo 5=some T5:=rfl
theorem ty6:lk zAo 6=some T6:=rfl
theorem ty7:lk zAo 7=some T7:=rfl
theorem ty8:lk zAo 8=some T8:=rfl
theorem ty9:lk zAo 9=some T9:=rfl
theorem ty10:lk zAo 10=some T10:=rfl
theorem ty11:lk zAo 11=some T11:=rfl
theorem ty12:lk zAo 12=some T12:=rfl
theorem ty13:lk zAo 13=some T13:=rfl
theorem ty14:lk zAo 14=some T14:=rfl
theorem ty15:lk zAo 15=some T15:=rfl
theorem ty16:lk zAo 16=some T16:=rfl
theorem ty17:lk zAo 17=some T17:=rfl
theorem ty18:lk zAo 18=some T18:=rfl
theorem ty19:lk zAo 19=some T19:=rfl
theorem ty21:lk zAo 21=some T21:=rfl
theorem ty22:lk zAo 22=some T22:=rfl
theorem ty24:lk zAo 24=some T24:=rfl
theorem ty25:lk zAo 25=some T25:=rfl
theorem ty26:lk zAo 26=some T26:=rfl
theorem ty27:lk zAo 27=some T27:=rfl
theorem ty28:lk zAo 28=some T28:=rfl
theorem ty29:lk zAo 29=some T29:=rfl
theorem ty30:lk zAo 30=some T30:=rfl
theorem ty33:lk zAo 33=some T33:=rfl
theorem ty42:lk zAo 42=some T42:=rfl
theorem ty43:lk zAo 43=some T43:=rfl
theorem ty44:lk zAo 44=some T44:=rfl
theorem ty45:lk zAo 45=some T45:=rfl
theorem ty46:lk zAo 46=some T46:=rfl
theorem ty47:lk zAo 47=some T47:=rfl
theorem ty48:lk zAo 48=some T48:=rfl
theorem ty54:lk zAo 54=some T54:=rfl
theorem ty59:lk zAo 59=some T59:=rfl
theorem ty69:lk zAo 69=some T69:=rfl
theorem ty70:lk zAo 70=some T70:=rfl
theorem ty71:lk zAo 71=some T71:=rfl
theorem ty72:lk zAo 72=some T72:=rfl
theorem ty73:lk zAo 73=some T73:=rfl
theorem ty76:lk zAo 76=some T76:=rfl
theorem ty77:lk zAo 77=some T77:=rfl
theorem ty103:lk zAo 103=some zeO:=rfl
theorem ty108:lk zAo 108=some zeN:=rfl
theorem ty109:lk zAo 109=some zeM:=rfl
theorem ty119:lk zAo 119=some zeL:=rfl
theorem ty120:lk zAo 120=some zeK:=rfl
theorem ty122:lk zAo 122=some zeJ:=rfl
theorem ty127:lk zAo 127=some zeI:=rfl
theorem ty128:lk zAo 128=some zeH:=rfl
theorem ty129:lk zAo 129=some zeG:=rfl
theorem ty131:lk zAo 131=some zeF:=rfl
theorem ty133:lk zAo 133=some zeE:=rfl
theorem ty134:lk zAo 134=some zeD:=rfl
theorem ty147:lk zAo 147=some zeC:=rfl
theorem ty148:lk zAo 148=some zeB:=rfl
theorem ty162:lk zAo 162=some zeA:=rfl
theorem ty163:lk zAo 163=some zd9:=rfl
theorem ty164:lk zAo 164=some zd8:=rfl
theorem ty193:lk zAo 193=some zd7:=rfl
theorem ty211:lk zAo 211=some zd6:=rfl
theorem ty216:lk zAo 216=some zd5:=rfl
theorem ty217:lk zAo 217=some zd4:=rfl
theorem ty229:lk zAo 229=some zd3:=rfl
theorem ty243:lk zAo 243=some zd2:=rfl
theorem ty247:lk zAo 247=some zd1:=rfl
theorem ty248:lk zAo 248=some zd0:=rfl
theorem ty252:lk zAo 252=some zdz:=rfl
theorem ty253:lk zAo 253=some zdy:=rfl
theorem ty255:lk zAo 255=some zdx:=rfl
theorem ty256:lk zAo 256=some zdw:=rfl
theorem zB(fns:List ((Nat × List Nat) × zJ)):zFj Tryz.prog ⟨zAo,fns⟩:=by
 have key:∀l:List (Nat × TI),(∀p∈l,zDK Tryz.prog p.1 p.2)→∀t ti,lk l t=some ti→zDK Tryz.prog t ti:=by
  intro l
  induction l with
  | nil=>intro _ t ti h;cases h
  | cons p l ih=>
   intro hl t ti h
   obtain⟨i,x⟩:=p
   simp only[lk] at h
   split at h
   ·rename_i e;subst e;cases h;exact hl (i,ti) (by simp)
   ·exact ih (fun p hp=>hl p (by simp[hp])) t ti h
 refine key zAo ?_
 simp only[zAo,List.mem_cons,List.not_mem_nil,or_false,forall_eq_or_imp,forall_eq]
 exact⟨T2_ok,T3_ok,T4_ok,T5_ok,T6_ok,T7_ok,T8_ok,T9_ok,zge,zgc,zga,zgY,zgW,zgU,zgS,zgQ,zgO,zgM,zgK,zgI,zgG,zgE,zgC,zgA,zf8,zf6,zf3,zf1,zfy,zfw,zfu,zfs,zfq,zfo,zfm,zfj,zfh,zfe,zfb,zfZ,zfX,zfV,zfT,zfR,zdh,zdf,zdd,zda,zdX,zdV,zdT,zdR,zdP,zdM,zdK,zdI,zdF,zdD,zc9,zc7,zc5,zc0,zcx,zcv,zct,zcq,zcn,zcl,zcj,zcg,zce,zcc,zca⟩
theorem mixed:Tryz.prog.follows .mixedOrders=true:=by kernel_rfl
attribute [simp] zZU zE zF yp zNq zEW zAA zBE pv_at zez zbZ zey zbX ze0 PTy.leaves PTy.wd inR TI.sz TI.pty lk zFA zGg zWz zat yN zBP zAt zPb zVb zFE dpB zGw ndB zQP zdl zIv zRJ St.slot zNM zNL zR9 St.ev SV.cells SV.ofCells SV.leafB zGr zGh zM3 zJC zIs zPL zLs zDY zBh zDF zNF zO3 zMM zXR zU noP elP zBg zAy zUZ binI zOx zWI binS imp evs zNi zL2 zAZ zE9 zHT zBv zNJ zMN zUW zdn bsHs zJe zdm zCv zNl zKQ zKb zG7 zG3 zXI zaw zQh zTw zYk zMw zQg zVr zWO zQa zPs zSc zQv zUJ zTC zbO zM9 evO zSp zEL zDE zUz zQZ zJS zUh zID zNg zer zXK zVq zSh zHY zMI zNW zTb zT3 zVz zQd zC1 zK7 eqCs zUe zAi zRK zNp leafB zL5 zHH zVg zGI csz ksz zah zET zJW vcK zae ldLs isLs splG zRu zMH vcD zWF zNa zPl zGx zWH rn zOz zOy entR zY7 zM2 ze9 zdu entA entL ent zOu hsV zds zKS zDU zMt hsL hsA zZT gcH gcA zTc zYJ zOw zbq mr mrs zOv zbr zEl zFb zL1 zL0 zOk zLI zAh nL zMW zbQ zPf zJJ zML zZV zZ0 zNO zSo zbv zWl SV.lt SV.lts IntKind.min IntKind.max IntKind.signed IntKind.bits LIM
attribute [simp] ty2 T2_sz zf4 T2 ty3 T3_sz zfz T3 ty4 T4_sz zfk T4 ty5 T5_sz zff T5 ty6 T6_sz zfc T6 ty7 T7_sz zfP T7 ty8 T8_sz zfO T8 ty9 T9_sz zfN T9 ty10 zgd zdb T10 ty11 zgb zdY T11 ty12 zgZ zdN T12 ty13 zgX zdG T13 ty14 zgV zdB T14 ty15 zgT zdA T15 ty16 zgR zc3 T16 ty17 zgP zc2 T17 ty18 zgN zc1 T18 ty19 zgL zcy T19 ty21 zgJ zcr T21 ty22 zgH zco T22 ty24 zgF zch T24 ty25 zgD zcY T25 ty26 zgB zcX T26 ty27 zf9 zcW T27 ty28 zf7 zcV T28 ty29 zf5 zcU T29 ty30 zf2 zcT T30 ty33 zf0 zcS T33 ty42 zfx zcR T42 ty43 zfv zcQ T43 ty44 zft zcP T44 ty45 zfr zcO T45 ty46 zfp zcN T46 ty47 zfn zcM T47 ty48 zfl zcL T48 ty54 zfi zcK T54 ty59 zfg zcJ T59 ty69 zfd zcI T69 ty70 zfa zcH T70 ty71 zfY zcG T71 ty72 zfW zcF T72 ty73 zfU zcE T73 ty76 zfS zcD T76 ty77 zfQ zcC T77 ty103 zdg zaZ zeO ty108 zde zaY zeN ty109 zdc zaX zeM ty119 zdZ zaW zeL ty120 zdW zaV zeK ty122 zdU zaU zeJ ty127 zdS zaT zeI ty128 zdQ zaS zeH ty129 zdO zaR zeG ty131 zdL zaQ zeF ty133 zdJ zaP zeE ty134 zdH zaO zeD ty147 zdE zaN zeC ty148 zdC zaM zeB ty162 zc8 zaL zeA ty163 zc6 zaK zd9 ty164 zc4 zaJ zd8 ty193 zcz zaI zd7 ty211 zcw zaH zd6 ty216 zcu zaG zd5 ty217 zcs zaF zd4 ty229 zcp zaE zd3 ty243 zcm zaD zd2 ty247 zck zaC zd1 ty248 zci zaB zd0 ty252 zcf zaA zdz ty253 zcd zZ9 zdy ty255 zcb zZ8 zdx ty256 zcZ zZ7 zdw
end
section
variable [zS]
open Go.Lib Go.RowKit
section
variable {P:Program} {w:World}
theorem zb4(t u ty e:TypeId)(i:TypeInfo)(ht:P.underlying t=some (.slice e))(hu:P.underlying u=some .string)(hi:P.info? e=some i)(hz:i.zero=some (.int .u8 0))(hsize:i.size=1)(hby:i.bytes=1)
  (v:Value) (n:Nat) (xs:List Value) (hown:w.ownsRow 0 e 1 v n xs) (s:ByteArray) (h63:n+s.size≤maxLen) (hbytes:n+s.size≤140737488355328) :
  ∃v' w',(Builtin.append_ #[t,u] ty #[v,.string s]).run P w=.ok v' w'∧w'.ownsRow 0 e 1 v' (n+s.size) (xs++strCells s)∧w.grownBy w' v.ownBlock∧(v'.ownBlock=v.ownBlock∨v'.ownBlock=some w.heap.size):=by
 obtain⟨v',w',hr,h2,h3,h4⟩:=run_append_own_string (P:=P) w 0 t u ty e i ht hu hi hz hsize hby v n xs hown s h63 hbytes (Nat.zero_le _)
 refine⟨v',w',hr,h2,h3,?_⟩
 have hxl:xs.length=n:=by simpa using hown.1
 simp only[maxLen] at h63
 have hown':=hown
 rcases hown.2 with ⟨rfl,rfl⟩ | ⟨g,cap,cur,rfl,_,hg,hnc,hcm,hcs,htake⟩
 ·by_cases hm:s.size=0
  ·rw[h4.2 ⟨rfl,hm⟩];exact .inl rfl
  ·have h5:=run_append_nil_string (P:=P) w t u ty e i (.int .u8 0) ht hu hi hz s (by omega) (by omega) (by rw[hby];omega)
   rw[h5] at hr;cases hr;exact .inr rfl
 ·by_cases hroom:n+s.size≤cap
  ·have h5:=run_append_room_string (P:=P) w t u ty e i ht hu hi hsize g n cap cur hg s hroom (by rw[Nat.mul_one] at hcs;omega)
   rw[h5] at hr;cases hr;exact .inl rfl
  ·have h5:=run_append_grow_string (P:=P) w t u ty e i (.int .u8 0) ht hu hi hz ⟨g,0,none⟩ n cap xs (by rw[hsize];simpa using hxl) (hown'.cells (g:=g) rfl) s (by omega) (by omega) (by rw[hby];exact growslice_fits (by omega) (by omega))
   rw[h5] at hr;cases hr;exact .inr rfl
theorem zb5(t ty e:TypeId)(i:TypeInfo)(ht:P.underlying t=some (.slice e))(hi:P.info? e=some i)(hz:i.zero=some (.int .u8 0))(hsize:i.size=1)(hby:i.bytes=1)
  (v:Value) (n:Nat) (xs:List Value) (hown:w.ownsRow 0 e 1 v n xs) (ad:Addr) (x:Value) (hx:w.cell? ad=some x) (h1:x.oneCell'=true) (hbytes:n+1≤140737488355328) :
  ∃v' w',(Builtin.append_ #[t,t] ty #[v,.slice (some ad) 1 1]).run P w=.ok v' w'∧w'.ownsRow 0 e 1 v' (n+1) (xs++[x])∧w.grownBy w' v.ownBlock∧(v'.ownBlock=v.ownBlock∨v'.ownBlock=some w.heap.size):=by
 have hnews:∀j u,([x]:List Value)[j]?=some u→w.cell? (ad.add j)=some u:=by
  intro j u hj
  match j,hj with
  | 0,hj=>simp at hj;subst hj;simpa[Addr.add] using hx
 have hone:∀u∈([x]:List Value),u.oneCell'=true:=by intro u hu;simp at hu;subst hu;exact h1
 obtain⟨v',w',hr,h2,h3,h4⟩:=run_append_own (P:=P) w 0 t ty e i (.int .u8 0) 1 1 ht hi hz hsize hby rfl (by decide) v n xs hown ad 1 1 [x] rfl hnews hone (by unfold maxLen;omega) (by omega) (Nat.zero_le _)
 refine⟨v',w',hr,h2,h3,?_⟩
 have hxl:xs.length=n:=by simpa using hown.1
 have hown':=hown
 rcases hown.2 with ⟨rfl,rfl⟩ | ⟨g,cap,cur,rfl,_,hg,hnc,hcm,hcs,htake⟩
 ·have h5:=run_append_nil (P:=P) w t ty e i (.int .u8 0) ht hi hz ad 1 1 [x] (by rw[hsize];rfl) hnews (by omega) (by omega) (by rw[hby];omega)
  rw[h5] at hr;cases hr;exact .inr rfl
 ·by_cases hroom:n+1≤cap
  ·have h5:=run_append_room (P:=P) w t ty e i ht hi g n cap cur hg ad 1 1 [x] (by rw[hsize];rfl) hnews hone hroom (by rw[hsize,Nat.mul_one];rw[Nat.mul_one] at hcs;simp;omega)
   rw[h5] at hr;cases hr;exact .inl rfl
  ·have h5:=run_append_grow (P:=P) w t ty e i (.int .u8 0) ht hi hz ⟨g,0,none⟩ n cap xs (by rw[hsize];simpa using hxl) (hown'.cells (g:=g) rfl) ad 1 1 [x] (by rw[hsize];rfl) hnews (by omega) (by omega) (by rw[hby];exact growslice_fits (by omega) (by omega))
   rw[h5] at hr;cases hr;exact .inr rfl
theorem zQt{ops:Array Oper}{rest:List Oper}{o:Oper}{a:Act}{Q:Exit→Act→World→Prop}(hgd:o.guard=none)(sl x:Operand)(t u:TypeId)
  (ho:o.op=.call { callee:=.builtin .append,args:=#[sl,x],argTypes:=#[t,u] })
  (e:TypeId) (i:TypeInfo) (ht:P.underlying t=some (.slice e)) (hu:P.underlying u=some .string) (hi:P.info? e=some i) (hz:i.zero=some (.int .u8 0)) (hsize:i.size=1) (hby:i.bytes=1)
  (v:Value) (n:Nat) (xs:List Value) (hs:a.eval sl=v) (hown:w.ownsRow 0 e 1 v n xs) (s:ByteArray) (hx:a.eval x=.string s) (h63:n+s.size≤maxLen) (hbytes:n+s.size≤140737488355328)
  (h:∀v' w',w'.ownsRow 0 e 1 v' (n+s.size) (xs++strCells s)→w.grownBy w' v.ownBlock→(v'.ownBlock=v.ownBlock∨v'.ownBlock=some w.heap.size)→wpList P ops Q rest (a.put o.dst v') w'):wpList P ops Q (o :: rest) a w:=by
 refine wpList_plain hgd fun K hK=>?_
 obtain⟨v',w',hr,h2,h3,h4⟩:=zb4 (P:=P) t u o.type e i ht hu hi hz hsize hby v n xs hown s h63 hbytes
 unfold Oper.wp execOp
 simp only[ho,resolve,invoke,builtin,Sem.run_bind,Sem.run_pure,Result.andThen_ok,List.map_toArray,List.map_cons,List.map_nil,hs,hx,hr]
 exact hK _ _ (h v' w' h2 h3 h4)
theorem zQu{ops:Array Oper}{rest:List Oper}{o:Oper}{a:Act}{Q:Exit→Act→World→Prop}(hgd:o.guard=none)(sl x:Operand)(t:TypeId)
  (ho:o.op=.call { callee:=.builtin .append,args:=#[sl,x],argTypes:=#[t,t] })
  (e:TypeId) (i:TypeInfo) (ht:P.underlying t=some (.slice e)) (hi:P.info? e=some i) (hz:i.zero=some (.int .u8 0)) (hsize:i.size=1) (hby:i.bytes=1)
  (v:Value) (n:Nat) (xs:List Value) (hs:a.eval sl=v) (hown:w.ownsRow 0 e 1 v n xs) (ad:Addr) (y:Value) (hx:a.eval x=.slice (some ad) 1 1) (hy:w.cell? ad=some y) (h1:y.oneCell'=true) (hbytes:n+1≤140737488355328)
  (h:∀v' w',w'.ownsRow 0 e 1 v' (n+1) (xs++[y])→w.grownBy w' v.ownBlock→(v'.ownBlock=v.ownBlock∨v'.ownBlock=some w.heap.size)→wpList P ops Q rest (a.put o.dst v') w'):wpList P ops Q (o :: rest) a w:=by
 refine wpList_plain hgd fun K hK=>?_
 obtain⟨v',w',hr,h2,h3,h4⟩:=zb5 (P:=P) t o.type e i ht hi hz hsize hby v n xs hown ad y hy h1 hbytes
 unfold Oper.wp execOp
 simp only[ho,resolve,invoke,builtin,Sem.run_bind,Sem.run_pure,Result.andThen_ok,List.map_toArray,List.map_cons,List.map_nil,hs,hx,hr]
 exact hK _ _ (h v' w' h2 h3 h4)
end
end
section
variable [zS]
section
variable {C:Cx} {S:St} {k:List KI} {all:List Oper} {E:Env} {K:St→Prop}
end
end
end Go.Proofs.YthogljppoiekaaaGreat
