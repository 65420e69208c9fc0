/-
  Part 1: contracts of functions, and the laws by which they are proved.
  Conditions: none.
-/
import GoSem.Core.Value
import Derived.Calls
import Derived.Tactics
import Derived.Below
import Derived.KernelRfl
import Derived.Laws.Strings
import Derived.Laws.IdiomStrings
import Derived.Laws.AppendOwn
import Derived.Laws.StructEq
import Derived.ChangeKeysEq
set_option linter.unusedVariables false
set_option linter.unusedSimpArgs false
set_option linter.unusedSectionVars false
set_option maxRecDepth 100000
namespace Go.Proofs.YtdmbfkooebldcaaGreatDoor
section
inductive PTy where
 | int (k:IntKind) | bool | str | list (t:PTy) | agg (ts:List PTy) | box (ts:List PTy) | abx (t:PTy) | fn (f:Nat) (ts:List PTy) | opq
deriving Inhabited
inductive PV where
 | int (k:IntKind) (n:Int) | bool (b:Bool) | str (l:List UInt8) | list (es:List PV) | agg (es:List PV)
deriving Inhabited
def PV.I:PV→Int | .int _ n=>n | _=>0
def PV.B:PV→Bool | .bool n=>n | _=>false
def PV.S:PV→List UInt8 | .str n=>n | _=>[]
def PV.L:PV→List PV | .list n=>n | _=>[]
def PV.A:PV→List PV | .agg n=>n | _=>[]
def PV.d:PV:=.bool false
def PV.at(p:PV)(i:Nat):PV:=p.A.getD i PV.d
def PV.leaves:PV→List PV | .agg qs=>qs | p=>[p]
end
section
class zZ where
 s:Nat→Bool
class LaidN [zZ] (g:Nat):Prop where
 h:zZ.s g=true
@[simp] theorem laid_s[zZ](g:Nat)[i:LaidN g]:zZ.s g=true:=i.h
def GT:List (Nat × (PTy × List PV)):=[]
def GE:List (Nat × Bool):=[]
end
section
variable [zZ]
def PTy.leaves:PTy→List PTy | .agg ts=>ts | t=>[t]
def PTy.wd(t:PTy):Nat:=t.leaves.length
def LIM:Nat:=140737488355328
def inR(k:IntKind)(n:Int):Prop:=k.min≤n∧n≤k.max
instance (k:IntKind) (n:Int):Decidable (inR k n):=by unfold inR;infer_instance
inductive SV where
 | int (k:IntKind) (n:Int) | bool (b:Bool) | str (l:List UInt8)
 | sl (h:Nat) | ptr (h off:Nat) | elp (h i wd off:Nat)
 | agg (xs:List SV) | tup (xs:List SV) | fn (f:Nat) (xs:List SV) | nils | nilp | glo (g i:Nat)
deriving Inhabited
inductive Own where | vw (rs:List Nat) | sh | dp | cs (k:Nat)
inductive Pth where | no | el (r i j:Nat) | sub (r lo:Nat)
inductive HL where
 | box (own:Bool) (t:TypeId) (cells:List SV)
 | arr (o:Own) (T:PTy) (es:List PV) (p:Pth)
 | abx (own:Bool) (T:PTy) (es:List PV)
 | bld (T e:Nat) (l:List UInt8)
 | dead
abbrev Hp:=List (Nat × HL)
structure St where
 Lp:List (Nat × SV)
 Lt:List (Nat × Bool × SV)
 A:Hp
 n:Nat
structure TI where
 agg:Bool
 leaves:List PTy
 el:Nat
 flds:List (Nat × Nat)
 bytes:Nat
 d:TypeDesc
 eqb:Bool
def TI.sz(t:TI):Nat:=t.leaves.length
def TI.pty(t:TI):PTy:=if t.agg then .agg t.leaves else t.leaves.headD .opq
inductive Md where | rd | mt | bx | ow | bs
structure zS where
 args:List (Md × PTy)
 ret:List PTy
 fresh:Bool
 pre:List PV→Prop
 res:List PV→List PV
 out:List PV→List PV
structure Env where
 ty:List (Nat × TI)
 fn:List ((Nat × List Nat) × zS)
def lk{α:Type}:List (Nat × α)→Nat→Option α
 | [],_=>none
 | (k,v) :: r,i=>if k=i then some v else lk r i
def yk{α:Type}:List (Nat × α)→Nat→α→List (Nat × α)
 | [],i,x=>[(i,x)]
 | (k,v) :: r,i,x=>if k=i then (k,x) :: r else (k,v) :: yk r i x
def yw:List Nat→Nat→Bool
 | [],_=>false
 | x :: r,i=>if x=i then true else yw r i
def zLQ(hs:List Nat):List Nat→Bool
 | []=>false
 | r :: rs=>if yw hs r then true else zLQ hs rs
def zNm(hs:List Nat):HL→HL
 | .arr (.vw rs) T es p=>if zLQ hs rs then .dead else .arr (.vw rs) T es p
 | x=>x
def zK(hs:List Nat):Hp→Hp
 | []=>[]
 | (k,x) :: A=>(k,if yw hs k then .dead else zNm hs x) :: zK hs A
def zk:HL→HL
 | .arr .dp T es _=>.arr (.vw []) T es .no
 | .arr .sh T es _=>.arr (.vw []) T es .no
 | y=>y
def ze(hs:List Nat):HL→HL
 | .arr (.vw rs) T es (.el r i j)=>if yw hs r then .arr (.vw rs) T es .no else .arr (.vw rs) T es (.el r i j)
 | .arr (.vw rs) T es (.sub r lo)=>if yw hs r then .arr (.vw rs) T es .no else .arr (.vw rs) T es (.sub r lo)
 | x=>x
def zFb(hs:List Nat):Hp→Hp
 | []=>[]
 | (k,x) :: A=>(k,ze hs (if yw hs k then zk x else x)) :: zFb hs A
def zIs(A:Hp)(h:Nat):Hp:=
 match lk A h with
 | some (.arr (.vw _) T es (.sub r _))=>(match lk A r with
  | some (.arr .dp _ _ _)=>yk (zK [r] A) h (.arr .dp T es .no)
  | some (.arr .sh _ _ _)=>yk (zK [r] A) h (.arr .sh T es .no)
  | _=>A)
 | _=>A
def yv(A:Hp):List Nat→Hp
 | []=>A
 | h :: r=>yv (zIs A h) r
def dpB(A:Hp)(h:Nat):Bool:=match lk A h with | some (.arr .dp _ _ _)=>true | _=>false
def zAX(A:Hp):List Nat→Bool
 | []=>true
 | h :: r=>dpB A h&&zAX A r
def ndB:List Nat→Bool
 | []=>true
 | h :: r=>!yw r h&&ndB r
def zF9{α:Type}:List α→Bool | []=>true | _=>false
def zRe(A:Hp):List Nat→Prop
 | []=>True
 | h :: r=>(match lk A h with | some (.arr .dp _ _ _)=>True | some (.arr (.vw []) _ _ _)=>True | _=>False)∧zRe A r
def zBi(o:Own)(A:Hp)(hs:List Nat):Own × Hp:=
 if zF9 hs then (o,A) else
  match o with
  | .dp=>if zAX (yv A hs) hs&&ndB hs then (.dp,zK hs (yv A hs)) else (.sh,zFb hs (yv A hs))
  | o=>(o,zFb hs (yv A hs))
def zGm(o:Own)(A:Hp)(hs:List Nat):Prop:=
 if zF9 hs then True else
  match o with
  | .dp=>if zAX (yv A hs) hs&&ndB hs then True else zRe (yv A hs) hs
  | _=>zRe (yv A hs) hs
def St.slot(S:St)(t:Nat):Option (Bool × SV):=
 match lk S.Lt t with
 | some x=>some x
 | none=>match lk S.Lp t with | some v=>some (true,v) | none=>none
def zD6:Value→Option SV
 | .int k n=>if inR k n then some (.int k n) else none
 | .bool b=>some (.bool b)
 | .string s=>if s.data.toList.length≤LIM then some (.str s.data.toList) else none
 | .slice none 0 0=>some .nils
 | .pointer none=>some .nilp
 | _=>none
def zD5:List Value→Option (List SV)
 | []=>some []
 | v :: r=>match zD6 v,zD5 r with | some x,some xs=>some (x :: xs) | _,_=>none
def zHS:Value→Option SV
 | .agg cs=>match zD5 cs.toList with | some xs=>some (.agg xs) | none=>none
 | v=>zD6 v
def St.ev(S:St):Operand→Option (Bool × SV)
 | .tmp t=>S.slot t
 | .const v=>match zHS v with | some x=>some (true,x) | none=>none
 | .func f=>some (true,.fn f [])
 | .global g=>some (true,.glo g 0)
def SV.cells:SV→List SV | .agg xs=>xs | x=>[x]
def SV.ofCells:SV→List SV→SV | .agg _,xs=>.agg xs | _,xs=>xs.headD .nilp
def SV.leafB:SV→Bool | .agg _=>false | .tup _=>false | _=>true
def zA6:List SV→Bool
 | []=>true
 | x :: xs=>x.leafB&&zA6 xs
def zAf(n:Nat):List PTy→List SV→List SV × Hp × Nat
 | .list t :: ts,.nils :: xs=>((.sl n :: (zAf (n+1) ts xs).1),((zAf (n+1) ts xs).2.1++[(n,.arr .dp t [] .no)]),(zAf (n+1) ts xs).2.2)
 | _ :: ts,x :: xs=>(x :: (zAf n ts xs).1,(zAf n ts xs).2.1,(zAf n ts xs).2.2)
 | _,xs=>(xs,[],n)
def zDs:PTy→SV
 | .int k=>.int k 0 | .bool=>.bool false | .str=>.str [] | .list _=>.nils | _=>.nilp
def zBq:List PTy→List SV
 | []=>[]
 | t :: ts=>zDs t :: zBq ts
def zBg:PTy→PV
 | .int k=>.int k 0 | .bool=>.bool false | .str=>.str [] | .list _=>.list [] | _=>PV.d
def zFT:List PTy→List PV
 | []=>[]
 | t :: ts=>zBg t :: zFT ts
def zDN:PTy→PV
 | .agg ts=>.agg (zFT ts)
 | t=>zBg t
def yS(A:Hp):PTy→SV→Option (Prop × PV)
 | .int k,.int k' n=>some (k'=k,.int k n)
 | .bool,.bool b=>some (True,.bool b)
 | .str,.str l=>some (True,.str l)
 | .list T,.sl h=>match lk A h with | some (.arr (.cs _) _ _ _)=>none | some (.arr _ T' es _)=>some (T'=T,.list es) | _=>none
 | .list _,.nils=>some (True,.list [])
 | _,_=>none
def zv(A:Hp):List PTy→List SV→Option (Prop × List PV)
 | [],[]=>some (True,[])
 | t :: ts,x :: xs=>match yS A t x,zv A ts xs with | some (o,p),some (o',ps)=>some (o∧o',p :: ps) | _,_=>none
 | _,_=>none
def yJ(A:Hp):PTy→SV→Option (Prop × PV)
 | .agg ts,.agg xs=>match zv A ts xs with | some (o,ps)=>some (o,.agg ps) | none=>none
 | .box ts,.ptr h off=>match lk A h with | some (.box _ _ cs)=>if off+ts.length≤cs.length then (match zv A ts ((cs.drop off).take ts.length) with | some (o,ps)=>some (o,.agg ps) | none=>none) else none | _=>none
 | .abx T,.ptr h 0=>match lk A h with | some (.abx _ T' es)=>some (T'=T,.list es) | _=>none
 | T,x=>yS A T x
def zFn(A:Hp):List PTy→List SV→Option (Prop × List PV)
 | [],[]=>some (True,[])
 | t :: ts,x :: xs=>match yJ A t x,zFn A ts xs with | some (o,p),some (o',ps)=>some (o∧o',p :: ps) | _,_=>none
 | _,_=>none
def zFE(A:Hp):PTy→SV→Option (Prop × PV)
 | .fn f ts,.fn f' xs=>match zFn A ts xs with | some (o,ps)=>some (f'=f∧o,.agg ps) | none=>none
 | T,x=>yJ A T x
def zDc(A:Hp):List (Md × PTy)→List SV→Option (Prop × List PV)
 | [],[]=>some (True,[])
 | (_,t) :: ts,x :: xs=>match zFE A t x,zDc A ts xs with | some (o,p),some (o',ps)=>some (o∧o',p :: ps) | _,_=>none
 | _,_=>none
def zLy(A:Hp)(T:PTy):List SV→Option (Prop × List PV)
 | []=>some (True,[])
 | x :: xs=>match yJ A T x,zLy A T xs with | some (o,p),some (o',ps)=>some (o∧o',p :: ps) | _,_=>none
def zB(o:Own)(q:Nat→Pth)(j n:Nat):List PTy→List PV→List SV × Hp × Nat
 | .int k :: ts,p :: ps=>(.int k p.I :: (zB o q (j+1) n ts ps).1,(zB o q (j+1) n ts ps).2.1,(zB o q (j+1) n ts ps).2.2)
 | .bool :: ts,p :: ps=>(.bool p.B :: (zB o q (j+1) n ts ps).1,(zB o q (j+1) n ts ps).2.1,(zB o q (j+1) n ts ps).2.2)
 | .str :: ts,p :: ps=>(.str p.S :: (zB o q (j+1) n ts ps).1,(zB o q (j+1) n ts ps).2.1,(zB o q (j+1) n ts ps).2.2)
 | .list t :: ts,p :: ps=>(.sl n :: (zB o q (j+1) (n+1) ts ps).1,(zB o q (j+1) (n+1) ts ps).2.1++[(n,.arr o t p.L (q j))],(zB o q (j+1) (n+1) ts ps).2.2)
 | _ :: ts,_ :: ps=>(.nilp :: (zB o q (j+1) n ts ps).1,(zB o q (j+1) n ts ps).2.1,(zB o q (j+1) n ts ps).2.2)
 | _,_=>([],[],n)
def noP:Nat→Pth:=fun _=>.no
def elP(r i:Nat):Nat→Pth:=fun j=>.el r i j
def z6(o:Own)(q:Nat→Pth)(j n:Nat):PTy→PV→SV × Hp × Nat
 | .agg ts,p=>(.agg (zB o q j n ts p.A).1,(zB o q j n ts p.A).2.1,(zB o q j n ts p.A).2.2)
 | T,p=>((zB o q j n [T] [p]).1.headD .nilp,(zB o q j n [T] [p]).2.1,(zB o q j n [T] [p]).2.2)
def zAG(o:Own)(n:Nat):PTy→PV→SV × Hp × Nat
 | .abx T,p=>(.ptr n 0,[(n,.abx true T p.L)],n+1)
 | T,p=>z6 o noP 0 n T p
def zj(o:Own)(n:Nat):List PTy→List PV→List SV × Hp × Nat
 | t :: ts,p :: ps=>((zAG o n t p).1 :: (zj o (zAG o n t p).2.2 ts ps).1,(zj o (zAG o n t p).2.2 ts ps).2.1++(zAG o n t p).2.1,(zj o (zAG o n t p).2.2 ts ps).2.2)
 | _,_=>([],[],n)
def zI8:List SV→SV
 | [x]=>x
 | xs=>.tup xs
def zPC(k:IntKind)(a b:Int):Int:=k.wrap (BitVec.ofInt k.bits a &&& BitVec.ofInt k.bits b).toNat
def orI(k:IntKind)(a b:Int):Int:=k.wrap (BitVec.ofInt k.bits a ||| BitVec.ofInt k.bits b).toNat
def xorI(k:IntKind)(a b:Int):Int:=k.wrap (BitVec.ofInt k.bits a ^^^ BitVec.ofInt k.bits b).toNat
def zM9(k:IntKind)(a b:Int):Int:=k.wrap (BitVec.ofInt k.bits a &&& ~~~BitVec.ofInt k.bits b).toNat
def shlI(k:IntKind)(a b:Int):Int:=k.wrap (a*2 ^ (min b.toNat k.bits))
def shrI(k:IntKind)(a b:Int):Int:=a.fdiv (2 ^ (min b.toNat k.bits))
def binI(op:BinOp)(k:IntKind)(a:Int)(k':IntKind)(b:Int):Option (Prop × SV):=
 match op with
 | .add=>some (k'=k,.int k (k.wrap (a+b)))
 | .sub=>some (k'=k,.int k (k.wrap (a - b)))
 | .mul=>some (k'=k,.int k (k.wrap (a*b)))
 | .quo=>some (k'=k∧b≠0,.int k (k.wrap (a.tdiv b)))
 | .rem=>some (k'=k∧b≠0,.int k (a.tmod b))
 | .and=>some (k'=k,.int k (zPC k a b))
 | .or=>some (k'=k,.int k (orI k a b))
 | .xor=>some (k'=k,.int k (xorI k a b))
 | .andNot=>some (k'=k,.int k (zM9 k a b))
 | .shl=>some (0≤b,.int k (shlI k a b))
 | .shr=>some (0≤b,.int k (shrI k a b))
 | .eql=>some (k'=k,.bool (a == b))
 | .neq=>some (k'=k,.bool (a != b))
 | .lss=>some (k'=k,.bool (decide (a < b)))
 | .leq=>some (k'=k,.bool (decide (a≤b)))
 | .gtr=>some (k'=k,.bool (decide (a > b)))
 | .geq=>some (k'=k,.bool (decide (a ≥ b)))
def zE8:List SV→List SV→Option Bool
 | [],[]=>some true
 | .int k a :: xs,.int k' b :: ys=>if k=k' then (match zE8 xs ys with | some r=>some (a == b&&r) | none=>none) else none
 | .bool a :: xs,.bool b :: ys=>(match zE8 xs ys with | some r=>some (a == b&&r) | none=>none)
 | .str a :: xs,.str b :: ys=>(match zE8 xs ys with | some r=>some (a == b&&r) | none=>none)
 | _,_=>none
def zKp:List SV→List Nat
 | []=>[]
 | .int _ _ :: r=>0 :: zKp r
 | .bool _ :: r=>1 :: zKp r
 | .str _ :: r=>2 :: zKp r
 | _ :: r=>3 :: zKp r
def zRl(tab:List (Nat × TI)):Nat→List Field→List Nat→Bool
 | _,[],[]=>true
 | i,f :: fs,s :: ss=>f.name != "_"&&f.offset == i&&(match lk tab f.type with | some tf=>(match tf.d,s with | .int _,0=>true | .bool,1=>true | .string,2=>true | _,_=>false) | none=>false)&&zRl tab (i+1) fs ss
 | _,_,_=>false
def eqTy(tab:List (Nat × TI))(ti:TI)(ss:List Nat):Bool:=ti.eqb&&(match ti.d with | .struct fs=>zRl tab 0 fs.toList ss | _=>false)
def binS(op:BinOp)(a b:List UInt8):Option (Prop × SV):=
 match op with
 | .add=>some (a.length+b.length≤LIM,.str (a++b))
 | .eql=>some (True,.bool (a == b))
 | .neq=>some (True,.bool (a != b))
 | .lss=>some (True,.bool (Op.bytesLess a b))
 | .leq=>some (True,.bool (Op.bytesLess a b || a == b))
 | .gtr=>some (True,.bool (!(Op.bytesLess a b || a == b)))
 | .geq=>some (True,.bool (!Op.bytesLess a b))
 | _=>none
def imp(g:Bool)(p:Prop):Prop:=g=true→p
structure RR where
 hy:Prop
 ob:Prop
 sv:SV
 A:Hp
 n:Nat
def evs(S:St)(g:Bool):List Operand→Option (Prop × List SV)
 | []=>some (True,[])
 | x :: r=>match S.ev x,evs S g r with | some (g',v),some (o,vs)=>some (imp g (g'=true)∧o,v :: vs) | _,_=>none
def zEJ:List SV→List Nat
 | []=>[]
 | .fn f _ :: r=>f :: zEJ r
 | _ :: r=>zEJ r
def zDV:List ((Nat × List Nat) × zS)→Nat→List Nat→Option zS
 | [],_,_=>none
 | ((f,cs),s) :: r,g,ds=>if f=g∧cs=ds then some s else zDV r g ds
def zW:List SV→List Nat
 | []=>[]
 | .sl h :: xs=>h :: zW xs
 | _ :: xs=>zW xs
def zAK:List SV→List Nat
 | []=>[]
 | x :: xs=>zW x.cells++zAK xs
def zA9(A:Hp)(m:Md)(t:PTy)(x:SV):List Nat:=
 match m with
 | .rd=>[]
 | .mt=>zW x.cells
 | .ow=>zW x.cells
 | .bx=>match x with
  | .ptr h off=>(match t with
   | .box ts=>h :: (match lk A h with | some (.box _ _ cs)=>zW ((cs.drop off).take ts.length) | _=>[])
   | _=>[h])
  | _=>[]
 | .bs=>match x with
  | .ptr h _=>[h]
  | _=>[]
def zy(A:Hp):List (Md × PTy)→List SV→List Nat
 | (m,t) :: ts,x :: xs=>zA9 A m t x++zy A ts xs
 | _,_=>[]
def zJ7(A:Hp)(h:Nat):Option (Nat × Nat × Nat):=match lk A h with | some (.arr (.vw _) _ _ (.el r i j))=>some (r,i,j) | _=>none
def zDd(A:Hp)(x:SV):List Nat:=
 match x with
 | .ptr h _=>h :: (match lk A h with | some (.box _ _ cs)=>zW cs | _=>[])
 | x=>zW x.cells
def zI7(A:Hp):List SV→List Nat
 | []=>[]
 | x :: xs=>zDd A x++zI7 A xs
def zRg(A:Hp)(x:SV):List Nat:=
 match x with
 | .fn _ xs=>zI7 A xs
 | x=>zDd A x
def bsHs(A:Hp)(t:PTy)(x:SV):List Nat:=
 match t,x with
 | .box l,.ptr h off=>(match lk A h with | some (.box _ _ cs)=>zW ((cs.drop off).take l.length) | _=>[])
 | _,_=>[]
def zB2(A:Hp):List (Md × PTy)→List SV→List Nat
 | (.rd,_) :: ts,x :: xs=>zRg A x++zB2 A ts xs
 | (.bs,t) :: ts,x :: xs=>bsHs A t x++zB2 A ts xs
 | _ :: ts,_ :: xs=>zB2 A ts xs
 | _,_=>[]
def zRf(A:Hp)(D:List Nat):List Nat→Prop
 | []=>True
 | h :: r=>(yw D h=false∧match lk A h with | some (.arr (.vw rs) _ _ _)=>zLQ D rs=false | some .dead=>False | none=>False | _=>True)∧zRf A D r
def yG(A:Hp):List (Md × PTy)→List SV→Prop
 | (.mt,.list _) :: ts,x :: xs=>zAX A (zW x.cells)=true∧yG A ts xs
 | (.mt,.agg _) :: ts,x :: xs=>zAX A (zW x.cells)=true∧yG A ts xs
 | (.ow,.list _) :: ts,x :: xs=>zAX A (zW x.cells)=true∧yG A ts xs
 | (.ow,.agg _) :: ts,x :: xs=>zAX A (zW x.cells)=true∧yG A ts xs
 | (.bx,.box l) :: ts,.ptr h off :: xs=>(match lk A h with | some (.box true _ cs)=>zAX A (zW ((cs.drop off).take l.length))=true | _=>False)∧yG A ts xs
 | (.bx,.abx T) :: ts,.ptr h 0 :: xs=>(match lk A h with | some (.abx true T' _)=>T'=T | _=>False)∧yG A ts xs
 | (.bs,.box _) :: ts,.ptr h _ :: xs=>(match lk A h with | some (.box true _ _)=>True | _=>False)∧yG A ts xs
 | (.rd,_) :: ts,_ :: xs=>yG A ts xs
 | [],[]=>True
 | _,_=>False
def zEO(A:Hp):List PTy→List SV→List PV→Hp
 | .list T :: ts,.sl h :: xs,p :: ps=>zEO (yk A h (.arr .dp T p.L .no)) ts xs ps
 | _ :: ts,_ :: xs,_ :: ps=>zEO A ts xs ps
 | _,_,_=>A
def zCS:List PTy→List SV→List PV→List SV
 | .int k :: ts,_ :: xs,p :: ps=>.int k p.I :: zCS ts xs ps
 | .bool :: ts,_ :: xs,p :: ps=>.bool p.B :: zCS ts xs ps
 | .str :: ts,_ :: xs,p :: ps=>.str p.S :: zCS ts xs ps
 | _ :: ts,x :: xs,_ :: ps=>x :: zCS ts xs ps
 | _,_,_=>[]
def zCY(A0 A:Hp)(n:Nat):List (Md × PTy)→List SV→List PV→Hp × Nat
 | (.mt,t) :: ts,x :: xs,p :: ps=>zCY A0 (zEO A t.leaves x.cells p.leaves) n ts xs ps
 | (.bx,.box l) :: ts,.ptr h off :: xs,p :: ps=>(match lk A0 h with
   | some (.box _ t cs)=>zCY A0 (yk ((zB .dp noP 0 n l p.A).2.1++A) h (.box true t (cs.take off++(zB .dp noP 0 n l p.A).1++cs.drop (off+l.length)))) (zB .dp noP 0 n l p.A).2.2 ts xs ps
   | _=>(A,n))
 | (.bx,.abx T) :: ts,.ptr h _ :: xs,p :: ps=>zCY A0 (yk A h (.abx true T p.L)) n ts xs ps
 | (.bs,.box l) :: ts,.ptr h off :: xs,p :: ps=>(match lk A0 h with
   | some (.box _ t cs)=>zCY A0 (yk A h (.box true t (cs.take off++zCS l ((cs.drop off).take l.length) p.A++cs.drop (off+l.length)))) n ts xs ps
   | _=>(A,n))
 | (.rd,_) :: ts,_ :: xs,ps=>zCY A0 A n ts xs ps
 | (.ow,_) :: ts,_ :: xs,ps=>zCY A0 A n ts xs ps
 | _,_,_=>(A,n)
def zAu(A:Hp):List Nat→List Nat
 | []=>[]
 | h :: r=>(match lk A h with | some (.arr (.vw rs) _ _ _)=>rs | some (.arr _ _ _ _)=>[h] | _=>[])++zAu A r
def zAr:List (Md × PTy)→Bool
 | []=>true
 | (.rd,_) :: ts=>zAr ts
 | _ :: _=>false
def zLj:List (Md × PTy)→List SV→Option (PTy × SV)
 | (.mt,t) :: ts,x :: _=>if zAr ts then some (t,x) else none
 | (.rd,_) :: ts,_ :: xs=>zLj ts xs
 | _,_=>none
def zO5(A:Hp):List Nat→Option (Nat × Nat)
 | []=>none
 | h :: _=>match zJ7 A h with | some (r,i,_)=>some (r,i) | none=>none
def zGR(S:St)(g:Bool)(s:zS)(o:Prop)(ps:List PV)(xs:List SV):RR:=
 { hy:=True,ob:=imp g (o∧s.pre ps)∧(zF9 (zj (if s.fresh then .dp else .vw (zAu S.A (zB2 S.A s.args xs))) S.n s.ret (s.res ps)).2.1=false→g=true)∧(s.res ps).length=s.ret.length,sv:=zI8 (zj (if s.fresh then .dp else .vw (zAu S.A (zB2 S.A s.args xs))) S.n s.ret (s.res ps)).1,A:=(zj (if s.fresh then .dp else .vw (zAu S.A (zB2 S.A s.args xs))) S.n s.ret (s.res ps)).2.1++S.A,n:=(zj (if s.fresh then .dp else .vw (zAu S.A (zB2 S.A s.args xs))) S.n s.ret (s.res ps)).2.2 }
def zIf(S:St)(g:Bool)(s:zS)(o:Prop)(ps:List PV)(xs:List SV):Option RR:=
 match s.args,xs,s.out ps with
 | (.mt,.list _) :: ts,.sl h :: ys,[q]=>(match zJ7 S.A h with
  | some (r,i,j)=>(match lk S.A r with
   | some (.arr .dp (.agg tt) es _)=>
    some { hy:=True,ob:=g=true∧o∧s.pre ps∧s.fresh=true∧(s.res ps).length=s.ret.length∧zAr ts=true∧zRf S.A [r] (zB2 S.A ts ys),sv:=zI8 (zj .dp S.n s.ret (s.res ps)).1,A:=(zj .dp S.n s.ret (s.res ps)).2.1++yk (zK [r] S.A) r (.arr .dp (.agg tt) (es.set i (.agg ((es.getD i PV.d).A.set j q))) .no),n:=(zj .dp S.n s.ret (s.res ps)).2.2 }
   | _=>none)
  | none=>none)
 | _,_,_=>none
def zMy(S:St)(g:Bool)(s:zS)(o:Prop)(ps:List PV)(xs:List SV)(hs:List Nat)(A0:Hp)(K:Hp × Nat):RR:=
 { hy:=True,ob:=g=true∧o∧s.pre ps∧s.fresh=true∧(s.res ps).length=s.ret.length∧yG A0 s.args xs∧ndB hs=true∧zRf A0 hs (zB2 A0 s.args xs),sv:=zI8 (zj .dp K.2 s.ret (s.res ps)).1,A:=(zj .dp K.2 s.ret (s.res ps)).2.1++K.1,n:=(zj .dp K.2 s.ret (s.res ps)).2.2 }
def zDk(S:St)(g:Bool)(s:zS)(o:Prop)(ps:List PV)(xs:List SV):RR:=
 zMy S g s o ps xs (zy S.A s.args xs) (yv S.A (zy S.A s.args xs)) (zCY (yv S.A (zy S.A s.args xs)) (zK (zy S.A s.args xs) (yv S.A (zy S.A s.args xs))) S.n s.args xs (s.out ps))
def zGQ(E:Env)(S:St)(g:Bool)(f:Nat)(caps args:List SV):Option RR:=
 match zDV E.fn f (zEJ args) with
 | none=>none
 | some s=>match zDc S.A s.args (args++caps) with
  | none=>none
  | some (o,ps)=>
   if zAr s.args then some (zGR S g s o ps (args++caps))
   else match zLj s.args (args++caps) with
    | some (t,x)=>(match zO5 S.A (zW x.cells) with
     | some _=>zIf S g s o ps (args++caps)
     | none=>some (zDk S g s o ps (args++caps)))
    | none=>some (zDk S g s o ps (args++caps))
def zw(l:List UInt8):List PV:=l.map fun b=>.int .u8 b.toNat
def zBS(es:List PV):List UInt8:=es.map fun p=>UInt8.ofNat p.I.toNat
def zKO:List (Nat × Operand)→List Nat
 | []=>[]
 | (i,_) :: r=>i :: zKO r
def zKw:List (Nat × Operand)→List Operand
 | []=>[]
 | (_,x) :: r=>x :: zKw r
def zGJ(flds:List (Nat × Nat))(cells:List SV):List Nat→List SV→Option (List SV)
 | [],[]=>some cells
 | i :: is,x :: xs=>match flds[i]? with
  | some (off,_)=>if off+x.cells.length≤cells.length then zGJ flds (cells.take off++x.cells++cells.drop (off+x.cells.length)) is xs else none
  | none=>none
 | _,_=>none
def zFr(E:Env)(flds:List (Nat × Nat)):List Nat→List SV→Prop
 | [],[]=>True
 | i :: is,x :: xs=>(match flds[i]? with | some (_,t)=>(match lk E.ty t with | some ti=>x.cells.length=ti.sz | none=>False) | none=>False)∧zFr E flds is xs
 | _,_=>False
def zHh(E:Env)(S:St)(g g':Bool)(src dst:TI)(x:SV):Option RR:=
 match dst.d,src.d,x with
 | .int k,_,.int _ n=>some ⟨True,imp g (g'=true),.int k (k.wrap n),S.A,S.n⟩
 | .string,.string,.str l=>some ⟨True,imp g (g'=true),.str l,S.A,S.n⟩
 | .string,.slice e,.sl h=>match lk S.A h,lk E.ty e with
  | some (.arr (.cs _) _ _ _),_=>none
  | some (.arr _ T es _),some te=>(match te.d with
   | .int .u8=>some ⟨True,imp g (g'=true∧T=.int .u8),.str (zBS es),S.A,S.n⟩
   | _=>none)
  | _,_=>none
 | .slice e,.string,.str l=>match lk E.ty e with
  | some te=>(match te.d with
   | .int .u8=>some ⟨True,g=true∧g'=true,.sl S.n,(S.n,.arr .dp (.int .u8) (zw l) .no) :: S.A,S.n+1⟩
   | _=>none)
  | none=>none
 | _,_,_=>none
def zGW(o:Own)(h:Nat):Own:=match o with | .vw rs=>.vw rs | .sh=>.vw [] | _=>.vw [h]
def zIw(o:Own)(h:Nat):Own:=match o with | .vw rs=>.vw rs | _=>.vw [h]
def zIH(o:Own)(h i:Nat):Nat→Pth:=match o with | .dp=>elP h i | _=>noP
def zPf(o:Own)(h lo:Nat):Pth:=match o with | .dp=>.sub h lo | .sh=>.sub h lo | _=>.no
def zDu(E:Env)(S:St)(g:Bool)(o:Prop)(t:Nat)(x:SV)(lo hi:Option Int):Option RR:=
 match x,lk E.ty t with
 | .str l,some ti=>
  some ⟨True,imp g (o∧0≤lo.getD 0∧lo.getD 0≤hi.getD l.length∧hi.getD l.length≤l.length∧ti.d=.string),.str ((l.drop (lo.getD 0).toNat).take ((hi.getD l.length).toNat - (lo.getD 0).toNat)),S.A,S.n⟩
 | .sl i,some ti=>match lk S.A i,lk E.ty ti.el with
  | some (.arr (.cs _) _ _ _),_=>none
  | some (.arr w T es _),some te=>
   some ⟨es.length≤LIM,g=true∧o∧0≤lo.getD 0∧lo.getD 0≤hi.getD es.length∧hi.getD es.length≤es.length∧ti.d=.slice ti.el∧te.sz=T.wd,.sl S.n,
    (S.n,.arr (zIw w i) T ((es.drop (lo.getD 0).toNat).take ((hi.getD es.length).toNat - (lo.getD 0).toNat)) (zPf w i (lo.getD 0).toNat)) :: S.A,S.n+1⟩
  | _,_=>none
 | _,_=>none
def evO(S:St)(g:Bool):Option Operand→Option (Prop × Option Int)
 | none=>some (True,none)
 | some x=>match S.ev x with | some (g',.int _ n)=>some (imp g (g'=true),some n) | _=>none
def zHp(k:Nat):List PTy→List PV→List PV
 | [],_=>[]
 | _ :: ts,A=>A.getD k PV.d :: zHp (k+1) ts A
def yd(T:PTy)(es:List PV)(i off:Nat)(ps:List PV):List PV:=
 es.set i (match T with
  | .agg ts=>.agg (zHp 0 (ts.take off) (es.getD i PV.d).A++ps++zHp (off+ps.length) (ts.drop (off+ps.length)) (es.getD i PV.d).A)
  | _=>ps.headD PV.d)
def yM(T:PTy)(es:List PV)(i off:Nat)(ti:TI):PV:=
 match T with
 | .agg _=>if ti.agg then .agg (zHp off ti.leaves (es.getD i PV.d).A) else (es.getD i PV.d).at off
 | _=>es.getD i PV.d
def zGI:PTy→Bool
 | .int _=>true | .bool=>true | .str=>true | _=>false
def zCo:List PTy→Bool
 | []=>true
 | t :: ts=>zGI t&&zCo ts
def zBD(T:PTy):Bool:=zCo T.leaves
def zJE:PTy→Bool | .int _=>true | .bool=>true | .str=>true | .list t=>zBD t | _=>false
def zBY:List PTy→Bool
 | []=>true
 | t :: ts=>zJE t&&zBY ts
def zEI(T:PTy):Bool:=zBY T.leaves
def zSP:Own→Prop | .dp=>True | .sh=>True | _=>False
def zLn:Own→Option HL→Prop
 | .dp,some (.arr .dp _ _ _)=>True
 | .sh,some (.arr .sh _ _ _)=>True
 | _,_=>False
def zKN(d:TypeDesc):Prop:=∃fs,d=.struct fs
def zHk(T:PTy)(b:Bool):Prop:=match T with | .agg _=>True | _=>b=false
def zAw(T:PTy)(off sz:Nat):List PTy:=(T.leaves.drop off).take sz
def zDH(A:Hp)(T:PTy):SV→Option (Prop × List PV)
 | .sl h=>match lk A h with | some (.arr (.cs _) _ _ _)=>none | some (.arr _ T' es _)=>some (T'=T,es) | _=>none
 | .nils=>some (True,[])
 | .str l=>some (T=.int .u8,zw l)
 | _=>none
def zEB(T:PTy)(o:Own)(A:Hp)(x:SV):Own × Hp:=
 if zBD T then (o,A) else
  match x with
  | .sl h=>(match lk A h with
   | some (.arr .dp T' es _)=>(match o with | .dp=>(.dp,zK [h] A) | o=>(o,yk (zK [h] A) h (.arr .sh T' es .no)))
   | _=>(.sh,A))
  | _=>(o,A)
def zIT(T:PTy)(A:Hp)(x:SV):Prop:=
 if zBD T then True else
  match x with
  | .sl h=>(match lk A h with | some (.arr .dp _ _ _)=>True | some (.arr .sh _ _ _)=>True | some (.arr (.vw []) _ _ _)=>True | _=>False)
  | _=>True
def zIk(E:Env)(S:St)(g:Bool)(o:Prop)(t:Nat)(s x:SV):Option RR:=
 match lk E.ty t with
 | none=>none
 | some ti=>match lk E.ty ti.el with
  | none=>none
  | some te=>match zDH S.A te.pty x with
   | none=>none
   | some (o',new)=>match s with
    | .nils=>some ⟨True,g=true∧o∧o'∧new.length*te.bytes≤LIM∧ti.d=.slice ti.el∧zEI te.pty=true∧zIT te.pty S.A x,.sl S.n,(S.n,.arr (zEB te.pty .dp S.A x).1 te.pty new .no) :: (zEB te.pty .dp S.A x).2,S.n+1⟩
    | .sl h=>match lk (zIs S.A h) h with
     | some (.arr w T es _)=>
      some ⟨es.length≤LIM,g=true∧o∧o'∧ti.d=.slice ti.el∧zEI te.pty=true∧T=te.pty∧(es.length+new.length)*te.bytes≤LIM∧zSP w∧yw (zW [x]) h=false∧zIT te.pty (zK [h] (zIs S.A h)) x,.sl S.n,
       (S.n,.arr (zEB te.pty w (zK [h] (zIs S.A h)) x).1 te.pty (es++new) .no) :: (zEB te.pty w (zK [h] (zIs S.A h)) x).2,S.n+1⟩
     | _=>none
    | _=>none
def zKc(A:Hp)(h:Nat):Option (Nat × Nat × PTy × List PV × Nat):=
 match lk A h with
 | some (.arr .dp T es _)=>some (h,0,T,es,es.length)
 | some (.arr (.vw _) T es (.sub r lo))=>(match lk A r with | some (.arr .dp T' es' _)=>some (r,lo,T',es',es.length) | _=>none)
 | _=>none
def zGM(E:Env)(S:St)(g:Bool)(o:Prop)(t h s:Nat):Option RR:=
 match zKc S.A h,lk E.ty t with
 | some (r,lo,T,es,n),some ti=>(match zDH S.A T (.sl s),lk E.ty ti.el with
  | some (o',new),some te=>some ⟨True,g=true∧o∧o'∧ti.d=.slice ti.el∧te.pty=T∧zGI T=true,.int .i64 (min new.length n:Nat),yk (zK [r] S.A) r (.arr .dp T (es.take lo++new.take n++es.drop (lo+min new.length n)) .no),S.n⟩
  | _,_=>none)
 | _,_=>none
def yH(E:Env)(S:St)(g:Bool)(b:Builtin)(ts:List Nat)(o:Prop)(vs:List SV):Option RR:=
 match b,ts,vs with
 | .len,t :: _,[.str l]=>match lk E.ty t with | some ti=>some ⟨l.length≤LIM,imp g (o∧ti.d=.string),.int .i64 l.length,S.A,S.n⟩ | none=>none
 | .len,t :: _,[.sl h]=>match lk S.A h,lk E.ty t with
  | some (.arr (.cs _) _ _ _),_=>none
  | some (.arr _ _ es _),some ti=>some ⟨es.length≤LIM,imp g (o∧ti.d=.slice ti.el),.int .i64 es.length,S.A,S.n⟩
  | _,_=>none
 | .append,[t,u],[s,x]=>match lk E.ty u with
  | some tu=>zIk E S g (o∧(tu.d=.slice tu.el∨tu.d=.string)) t s x
  | none=>none
 | .copy,[t,_],[.sl h,.sl s]=>zGM E S g o t h s
 | .min,_,[.int k a,.int k' b]=>some ⟨True,imp g (o∧k'=k),.int k (if b < a then b else a),S.A,S.n⟩
 | .max,_,[.int k a,.int k' b]=>some ⟨True,imp g (o∧k'=k),.int k (if b > a then b else a),S.A,S.n⟩
 | _,_,_=>none
def zCl(T:List PTy)(ps:List PV):Prop:=
 match T,ps with
 | .int k :: ts,p :: ps=>inR k p.I∧zCl ts ps
 | .str :: ts,p :: ps=>p.S.length≤LIM∧zCl ts ps
 | .list _ :: ts,p :: ps=>p.L.length≤LIM∧zCl ts ps
 | _ :: ts,_ :: ps=>zCl ts ps
 | _,_=>True
def eqCs:List SV→List SV→Option Bool
 | [],[]=>some true
 | .int k a :: xs,.int k' b :: ys=>match eqCs xs ys with | some r=>if k=k' then some ((a == b)&&r) else none | none=>none
 | .bool a :: xs,.bool b :: ys=>match eqCs xs ys with | some r=>some ((a == b)&&r) | none=>none
 | .str a :: xs,.str b :: ys=>match eqCs xs ys with | some r=>some ((a == b)&&r) | none=>none
 | _,_=>none
def zJB(E:Env)(t:Nat):List PTy:=match lk E.ty t with | some ti=>ti.leaves | none=>[]
def za (E : Env) (S : St) (g : Bool) (o : Oper) : Option RR :=
  match o.op with
  | .move x => match S.ev x with | some (g', v) => some ⟨True, imp g (g' = true), v, S.A, S.n⟩ | none => none
  | .assign x => match S.ev x with
    | some (g', v) => (if zF9 (zAf S.n (zJB E o.type) v.cells).2.1 then some ⟨True, imp g (g' = true), v, S.A, S.n⟩
      else some ⟨True, g = true ∧ g' = true ∧ v.cells.length = (zJB E o.type).length, v.ofCells (zAf S.n (zJB E o.type) v.cells).1,
        (zAf S.n (zJB E o.type) v.cells).2.1 ++ S.A, (zAf S.n (zJB E o.type) v.cells).2.2⟩)
    | none => none
  | .pick c a b => match S.ev c, S.ev a, S.ev b with
    | some (gc, .bool x), some (ga, .bool y), some (gb, .bool z) =>
      some ⟨True, imp g (gc = true ∧ imp x (ga = true) ∧ imp (!x) (gb = true)), .bool (if x then y else z), S.A, S.n⟩
    | _, _, _ => none
  | .box t x => match S.ev x, lk E.ty t with
    | some (g', v), some ti => some ⟨True, g = true ∧ g' = true ∧ v.cells.length = ti.sz, .ptr (zAf S.n ti.leaves v.cells).2.2 0,
        ((zAf S.n ti.leaves v.cells).2.2, .box true t (zAf S.n ti.leaves v.cells).1) :: ((zAf S.n ti.leaves v.cells).2.1 ++ S.A), (zAf S.n ti.leaves v.cells).2.2 + 1⟩
    | _, _ => none
  | .alloc t => match lk E.ty t with
    | some ti => (match ti.d with
      | .array _ _ => none
      | _ => some ⟨True, g = true, .ptr (zAf S.n ti.leaves (zBq ti.leaves)).2.2 0,
        ((zAf S.n ti.leaves (zBq ti.leaves)).2.2, .box true t (zAf S.n ti.leaves (zBq ti.leaves)).1) :: ((zAf S.n ti.leaves (zBq ti.leaves)).2.1 ++ S.A), (zAf S.n ti.leaves (zBq ti.leaves)).2.2 + 1⟩)
    | none => none
  | .load t x => match S.ev x, lk E.ty t with
    | some (g', .ptr h off), some ti => (match lk S.A h with
      | some (.box _ _ cs) => if off + ti.sz ≤ cs.length then
          (if ti.agg then some ⟨True, imp g (g' = true), .agg ((cs.drop off).take ti.sz), S.A, S.n⟩
           else match cs[off]? with | some v => some ⟨True, imp g (g' = true), v, S.A, S.n⟩ | none => none) else none
      | _ => none)
    | some (g', .elp h i wd off), some ti => (match lk S.A h with
      | some (.arr (.cs k) T es _) => if off = 0 ∧ ti.sz = T.wd then
          some ⟨zCl ti.leaves (yM T es i off ti).leaves, g = true ∧ g' = true ∧ wd = T.wd ∧ T.leaves = ti.leaves ∧ i < es.length ∧ k ≤ i ∧ zHk T ti.agg ∧ zEI T = true,
            (z6 .dp noP off S.n ti.pty (yM T es i off ti)).1, (z6 .dp noP off S.n ti.pty (yM T es i off ti)).2.1 ++ yk (zK [h] S.A) h (.arr (.cs (i + 1)) T es .no), (z6 .dp noP off S.n ti.pty (yM T es i off ti)).2.2⟩ else none
      | some (.arr w T es _) => if off + ti.sz ≤ T.wd then
          some ⟨zCl ti.leaves (yM T es i off ti).leaves, imp g (g' = true ∧ wd = T.wd ∧ zAw T off ti.sz = ti.leaves ∧ i < es.length ∧ zHk T ti.agg) ∧ ((z6 (zGW w h) (zIH w h i) off S.n ti.pty (yM T es i off ti)).2.1 ≠ [] → g = true),
            (z6 (zGW w h) (zIH w h i) off S.n ti.pty (yM T es i off ti)).1, (z6 (zGW w h) (zIH w h i) off S.n ti.pty (yM T es i off ti)).2.1 ++ S.A, (z6 (zGW w h) (zIH w h i) off S.n ti.pty (yM T es i off ti)).2.2⟩ else none
      | some (.abx _ T es) => if off + ti.sz ≤ T.wd then
          some ⟨zCl ti.leaves (yM T es i off ti).leaves, imp g (g' = true ∧ wd = T.wd ∧ zAw T off ti.sz = ti.leaves ∧ i < es.length ∧ zHk T ti.agg ∧ zCo ti.leaves = true),
            (z6 .dp noP off S.n ti.pty (yM T es i off ti)).1, S.A, S.n⟩ else none
      | _ => none)
    | _, _ => none
  | .store t x y => match S.ev x, S.ev y, lk E.ty t with
    | some (g', .ptr h off), some (g'', v), some ti => (match lk S.A h with
      | some (.box true bt cs) => if off + ti.sz ≤ cs.length then
          some ⟨True, g = true ∧ g' = true ∧ g'' = true ∧ v.cells.length = ti.sz ∧ zA6 v.cells = true ∧ o.dst = none, .nilp,
            yk ((zAf S.n ti.leaves v.cells).2.1 ++ S.A) h (.box true bt (cs.take off ++ (zAf S.n ti.leaves v.cells).1 ++ cs.drop (off + ti.sz))), (zAf S.n ti.leaves v.cells).2.2⟩ else none
      | _ => none)
    | some (g', .elp h i wd off), some (g'', v), some ti => (match lk S.A h with
      | some (.arr w T es _) => if off + ti.sz ≤ T.wd then (match zv S.A ti.leaves v.cells with
          | some (ob, ps) => some ⟨True, g = true ∧ g' = true ∧ g'' = true ∧ ob ∧ wd = T.wd ∧ zAw T off ti.sz = ti.leaves ∧ i < es.length ∧ zSP w ∧ zEI T = true ∧ zHk T ti.agg ∧ zA6 v.cells = true ∧ o.dst = none ∧
                zGm w S.A (zW v.cells) ∧ yw (zW v.cells) h = false ∧ zLn w (lk (zBi w S.A (zW v.cells)).2 h), .nilp,
              yk (zK [h] (zBi w S.A (zW v.cells)).2) h (.arr (zBi w S.A (zW v.cells)).1 T (yd T es i off ps) .no), S.n⟩
          | none => none) else none
      | some (.abx true T es) => if off + ti.sz ≤ T.wd then (match zv S.A ti.leaves v.cells with
          | some (ob, ps) => some ⟨True, g = true ∧ g' = true ∧ g'' = true ∧ ob ∧ wd = T.wd ∧ zAw T off ti.sz = ti.leaves ∧ i < es.length ∧ zBD T = true ∧ zHk T ti.agg ∧ zA6 v.cells = true ∧ o.dst = none, .nilp,
              yk (zK [h] S.A) h (.abx true T (yd T es i off ps)), S.n⟩
          | none => none) else none
      | _ => none)
    | _, _, _ => none
  | .fieldAddr s x f => match S.ev x, lk E.ty s with
    | some (g', .ptr h off), some ti => (match ti.flds[f]? with | some (fo, ft) => some ⟨True, imp g (g' = true) ∧ (lk E.ty ft).isSome = true, .ptr h (off + fo), S.A, S.n⟩ | none => none)
    | some (g', .elp h i wd off), some ti => (match ti.flds[f]? with | some (fo, ft) => some ⟨True, imp g (g' = true) ∧ (lk E.ty ft).isSome = true, .elp h i wd (off + fo), S.A, S.n⟩ | none => none)
    | _, _ => none
  | .indexAddr t x i => match S.ev x, S.ev i, lk E.ty t with
    | some (g', .sl h), some (g'', .int _ n), some ti => (match lk S.A h, lk E.ty ti.el with
      | some (.arr _ _ es _), some te => some ⟨True, imp g (g' = true ∧ g'' = true ∧ 0 ≤ n ∧ n < es.length ∧ ti.d = .slice ti.el), .elp h n.toNat te.sz 0, S.A, S.n⟩
      | _, _ => none)
    | _, _, _ => none
  | .index t x i => match S.ev x, S.ev i, lk E.ty t with
    | some (g', .str l), some (g'', .int _ n), some ti => some ⟨True, imp g (g' = true ∧ g'' = true ∧ 0 ≤ n ∧ n < l.length ∧ ti.d = .string), .int .u8 (l.getD n.toNat 0).toNat, S.A, S.n⟩
    | _, _, _ => none
  | .binOp op t x y _ => match S.ev x, S.ev y with
    | some (g', .int k a), some (g'', .int k' b) => (match binI op k a k' b with | some (ob, v) => some ⟨True, imp g (g' = true ∧ g'' = true ∧ ob), v, S.A, S.n⟩ | none => none)
    | some (g', .str a), some (g'', .str b) => (match binS op a b with | some (ob, v) => some ⟨True, imp g (g' = true ∧ g'' = true ∧ ob), v, S.A, S.n⟩ | none => none)
    | some (g', .bool a), some (g'', .bool b) => (match lk E.ty t, op with | some ti, .eql => some ⟨True, imp g (g' = true ∧ g'' = true ∧ ti.d = .bool), .bool (a == b), S.A, S.n⟩ | some ti, .neq => some ⟨True, imp g (g' = true ∧ g'' = true ∧ ti.d = .bool), .bool (a != b), S.A, S.n⟩ | _, _ => none)
    | some (g', .agg xs), some (g'', .agg ys) => (match lk E.ty t, op, zE8 xs ys with | some ti, .eql, some b => some ⟨True, imp g (g' = true ∧ g'' = true ∧ eqTy E.ty ti (zKp xs) = true), .bool b, S.A, S.n⟩ | some ti, .neq, some b => some ⟨True, imp g (g' = true ∧ g'' = true ∧ eqTy E.ty ti (zKp xs) = true), .bool (!b), S.A, S.n⟩ | _, _, _ => none)
    | _, _ => none
  | .nilCheck x => match S.ev x with
    | some (g', .ptr h off) => some ⟨True, imp g (g' = true), .ptr h off, S.A, S.n⟩
    | some (g', .elp h i wd off) => some ⟨True, imp g (g' = true), .elp h i wd off, S.A, S.n⟩
    | _ => none
  | .unOp op _ x => match op, S.ev x with
    | .not, some (g', .bool b) => some ⟨True, imp g (g' = true), .bool (!b), S.A, S.n⟩
    | .neg, some (g', .int k n) => some ⟨True, imp g (g' = true), .int k (k.wrap (0 - n)), S.A, S.n⟩
    | .xor, some (g', .int k n) => some ⟨True, imp g (g' = true), .int k (xorI k (if k.signed then -1 else k.max) n), S.A, S.n⟩
    | _, _ => none
  | .convert a b x => match S.ev x, lk E.ty a, lk E.ty b with
    | some (g', v), some s, some d => zHh E S g g' s d v
    | _, _, _ => none
  | .build t parts => match lk E.ty t, evs S g (zKw parts.toList) with
    | some ti, some (ob, vs) => (match zGJ ti.flds (zBq ti.leaves) (zKO parts.toList) vs with
      | some cs => some ⟨True, imp g ob ∧ zFr E ti.flds (zKO parts.toList) vs ∧ zKN ti.d, .agg cs, S.A, S.n⟩
      | none => none)
    | _, _ => none
  | .buildSlice t len parts => match lk E.ty t, evs S g (zKw parts.toList) with
    | some ti, some (ob, vs) => (match lk E.ty ti.el with
      | some te => (match zLy S.A te.pty vs with
        | some (ob', ps) => some ⟨True, g = true ∧ ob ∧ ob' ∧ zKO parts.toList = List.range len ∧ len * te.sz ≤ 16777216 ∧ ti.d = .slice ti.el ∧ zEI te.pty = true ∧ zGm .dp S.A (zAK vs), .sl S.n,
            (S.n, .arr (zBi .dp S.A (zAK vs)).1 te.pty ps .no) :: (zBi .dp S.A (zAK vs)).2, S.n + 1⟩
        | none => none)
      | none => none)
    | _, _ => none
  | .makeSlice t l c => match S.ev l, S.ev c, lk E.ty t with
    | some (g', .int .i64 n), some (g'', .int .i64 m), some ti => (match lk E.ty ti.el with
      | some te => some ⟨True, g = true ∧ g' = true ∧ g'' = true ∧ 0 ≤ n ∧ n ≤ m ∧ (te.bytes : Int) * m ≤ LIM ∧ m ≤ LIM ∧ ti.d = .slice ti.el ∧ zEI te.pty = true, .sl S.n, (S.n, .arr .dp te.pty (List.replicate n.toNat (zDN te.pty)) .no) :: S.A, S.n + 1⟩
      | none => none)
    | _, _, _ => none
  | .slice t x lo hi mx => match S.ev x, evO S g lo, evO S g hi, mx with
    | some (g', v), some (o1, a), some (o2, b), none => zDu E S g (imp g (g' = true) ∧ o1 ∧ o2) t v a b
    | _, _, _, _ => none
  | .makeFunc (.func f) first caps => match evs S g first.toList, evs S g caps.toList with
    | some (_, []), some (ob, vs) => some ⟨True, imp g ob, .fn f vs, S.A, S.n⟩
    | _, _ => none
  | .extract x i => match S.ev x with
    | some (g', .tup xs) => (match xs[i]? with | some v => some ⟨True, imp g (g' = true), v, S.A, S.n⟩ | none => none)
    | _ => none
  | .call c => match c.callee with
    | .builtin b => (match evs S g c.args.toList with
      | some (ob, vs) => yH E S g b c.argTypes.toList ob vs
      | none => none)
    | .value f => (match S.ev f, evs S g c.args.toList with
      | some (g', .fn f caps), some (ob, vs) => (match zGQ E S g f caps vs with
        | some R => some { R with ob := imp g (g' = true ∧ ob) ∧ R.ob }
        | none => none)
      | _, _ => none)
    | _ => none
  | _ => none
def zGn:List SV→Option (IntKind × List Int)
 | .int k n :: xs=>if zF9 xs then some (k,[n]) else match zGn xs with | some (k',ns)=>if k=k' then some (k,n :: ns) else none | none=>none
 | _=>none
def zPb(n:Nat)(x:PV):List PV:=List.replicate n x
def zER(n:Nat)(t:PTy):List PTy:=match n with | 0=>[] | n+1=>t :: zER n t
def leafB:PTy→Bool | .int _=>true | .bool=>true | .str=>true | _=>false
def zCC(E:Env)(S:St)(g:Bool)(o:Oper):Option RR:=
 match o.op with
 | .indexAddr t x i=>match S.ev x,S.ev i,lk E.ty t with
  | some (g',.ptr h 0),some (g'',.int _ n),some ti=>(match lk S.A h,ti.d with
   | some (.abx _ T es),.array len el=>(match lk E.ty el with
    | some te=>some ⟨True,imp g (g'=true∧g''=true∧0≤n∧n < len∧len=es.length),.elp h n.toNat te.sz 0,S.A,S.n⟩
    | none=>none)
   | _,_=>none)
  | some (g',.glo q 0),some (g'',.int _ n),some ti=>(match lk GT q,ti.d with
   | some (T,es),.array len el=>(match lk E.ty el with
    | some te=>some ⟨True,imp g (g'=true∧g''=true∧0≤n∧n < len∧len=es.length∧te.sz=1),.glo q n.toNat,S.A,S.n⟩
    | none=>none)
   | _,_=>none)
  | _,_,_=>none
 | .load t x=>match S.ev x,lk E.ty t with
  | some (g',.glo q i),some ti=>(match lk GT q with
   | some (T,es)=>if ti.agg then some ⟨True,imp g (g'=true∧zZ.s q=true∧i=0∧leafB T=true∧ti.leaves=zER es.length T),.agg (zB .dp noP 0 S.n ti.leaves (zHp 0 ti.leaves es)).1,S.A,S.n⟩
    else some ⟨zCl [T] [es.getD i PV.d],imp g (g'=true∧zZ.s q=true∧i < es.length∧leafB T=true∧ti.leaves=[T]),(zB .dp noP 0 S.n [T] [es.getD i PV.d]).1.headD .nilp,S.A,S.n⟩
   | none=>none)
  | some (g',.ptr h 0),some ti=>(match lk S.A h with
   | some (.abx _ T es)=>if ti.agg then some ⟨True,imp g (g'=true∧leafB T=true∧ti.leaves=zER es.length T),.agg (zB .dp noP 0 S.n ti.leaves (zHp 0 ti.leaves es)).1,S.A,S.n⟩ else none
   | _=>none)
  | _,_=>none
 | .store t x y=>match S.ev x,S.ev y,lk E.ty t with
  | some (g',.ptr h 0),some (g'',v),some ti=>(match lk S.A h with
   | some (.abx true T es)=>if ti.agg then (match zv S.A ti.leaves v.cells with
    | some (ob,ps)=>some ⟨True,g=true∧g'=true∧g''=true∧ob∧leafB T=true∧ti.leaves=zER es.length T∧zA6 v.cells=true∧o.dst=none,.nilp,yk (zK [h] S.A) h (.abx true T ps),S.n⟩
    | none=>none) else none
   | _=>none)
  | _,_,_=>none
 | .alloc t=>match lk E.ty t with
  | some ti=>(match ti.d with
   | .array len el=>(match lk E.ty el with
    | some te=>some ⟨True,g=true∧leafB te.pty=true∧ti.leaves=zER len te.pty,.ptr S.n 0,(S.n,.abx true te.pty (zPb len (zBg te.pty))) :: S.A,S.n+1⟩
    | none=>none)
   | _=>none)
  | none=>none
 | .build t parts=>match lk E.ty t,evs S g (zKw parts.toList) with
  | some ti,some (ob,vs)=>(match ti.d with
   | .array len el=>(match lk E.ty el with
    | some te=>some ⟨True,imp g ob∧zKO parts.toList=List.range len∧zA6 vs=true∧te.sz=1∧ti.sz=len,.agg vs,S.A,S.n⟩
    | none=>none)
   | _=>none)
  | _,_=>none
 | .index t x i=>match S.ev x,S.ev i,lk E.ty t with
  | some (g',.agg xs),some (g'',.int _ n),some ti=>(match ti.d,zGn xs with
   | .array len el,some (k,ns)=>(match lk E.ty el with
    | some te=>some ⟨True,imp g (g'=true∧g''=true∧0≤n∧n < len∧len=ns.length∧te.sz=1∧te.agg=false),.int k (ns.getD n.toNat 0),S.A,S.n⟩
    | none=>none)
   | _,_=>none)
  | _,_,_=>none
 | .binOp op t x y _=>match op,S.ev x,S.ev y,lk E.ty t with
  | .eql,some (g',.ptr _ _),some (g'',.nilp),some ti=>some ⟨True,imp g (g'=true∧g''=true∧∃e,ti.d=.pointer e),.bool false,S.A,S.n⟩
  | .neq,some (g',.ptr _ _),some (g'',.nilp),some ti=>some ⟨True,imp g (g'=true∧g''=true∧∃e,ti.d=.pointer e),.bool true,S.A,S.n⟩
  | .eql,some (g',.nilp),some (g'',.nilp),some ti=>some ⟨True,imp g (g'=true∧g''=true∧∃e,ti.d=.pointer e),.bool true,S.A,S.n⟩
  | .neq,some (g',.nilp),some (g'',.nilp),some ti=>some ⟨True,imp g (g'=true∧g''=true∧∃e,ti.d=.pointer e),.bool false,S.A,S.n⟩
  | _,_,_,_=>none
 | _=>none
def zD4(E:Env)(S:St)(g:Bool)(o:Oper):Option RR:=
 match za E S g o with
 | some R=>some R
 | none=>zCC E S g o
def zKB(E:Env)(S:St)(o:Oper):Option (Prop × List PV × Bool):=
 match o.op with
 | .binOp op t x y _=>match S.ev x,S.ev y,lk E.ty t with
  | some (gx,.sl h),some (gy,.nils),some ti=>(match yS S.A (.list (match lk S.A h with | some (.arr _ T _ _)=>T | _=>.opq)) (.sl h),op with
   | some (ob,.list es),.eql=>some (gx=true∧gy=true∧ob∧ti.d=.slice ti.el,es,false)
   | some (ob,.list es),.neq=>some (gx=true∧gy=true∧ob∧ti.d=.slice ti.el,es,true)
   | _,_=>none)
  | _,_,_=>none
 | _=>none
def zDi(S:St)(ops:List Oper):Option (Nat × Bool)→Option Bool
 | none=>some true
 | some (j,w)=>match ops[j]? with
  | some o=>(match o.dst with
   | some d=>(match S.slot d with | some (g,.bool x)=>some (g&&(if w then x else !x)) | _=>none)
   | none=>none)
  | none=>none
end
section
variable [zZ]
def zT(es:List PV):List PV:=es.flatMap PV.leaves
def zX(T:PTy)(n:Nat):List PTy:=(List.replicate n T.leaves).flatten
def Shp(T:PTy)(p:PV):Prop:=
 match T with
 | .agg ts=>∃qs,p=.agg qs∧qs.length=ts.length
 | _=>∀qs,p≠.agg qs
inductive Lv (w:World):List PTy→List PV→List Value→List Nat→Prop
 | nil:Lv w [] [] [] []
 | int {k n Ts ps vs fp}:inR k n→Lv w Ts ps vs fp→Lv w (.int k :: Ts) (.int k n :: ps) (.int k n :: vs) fp
 | bool {b Ts ps vs fp}:Lv w Ts ps vs fp→Lv w (.bool :: Ts) (.bool b :: ps) (.bool b :: vs) fp
 | str {l Ts ps vs fp}:l.length≤LIM→Lv w Ts ps vs fp→Lv w (.str :: Ts) (.str l :: ps) (.string ⟨l.toArray⟩ :: vs) fp
 | empty {T a c Ts ps vs fp}:Lv w Ts ps vs fp→Lv w (.list T :: Ts) (.list [] :: ps) (.slice a 0 c :: vs) fp
 | list {T es b o cap c t fr cs f1 Ts ps vs fp}:w.heap[b]?=some (.cells c t fr)→(∀e∈es,Shp T e)→es.length≤LIM∧es.length≤cap →
   Lv w (zX T es.length) (zT es) cs f1→(c.toList.drop o).take cs.length=cs→Lv w Ts ps vs fp →
   Lv w (.list T :: Ts) (.list es :: ps) (.slice (some ⟨b,o,none⟩) es.length cap :: vs) (b :: f1++fp)
theorem Lv.lens{w:World}{Ts ps vs fp}(h:Lv w Ts ps vs fp):Ts.length=ps.length∧vs.length=ps.length:=by
 induction h<;>simp_all
theorem Lv.inb{w:World}{Ts ps vs fp}(h:Lv w Ts ps vs fp):∀b∈fp,b < w.heap.size:=by
 induction h with
 | nil=>simp
 | int _ _ ih=>exact ih
 | bool _ ih=>exact ih
 | str _ _ ih=>exact ih
 | empty _ ih=>exact ih
 | list hb _ _ _ _ _ ih1 ih2=>
  intro b hm
  simp only[List.cons_append,List.mem_cons,List.mem_append] at hm
  rcases hm with rfl | hm | hm
  ·exact(Array.getElem?_eq_some_iff.1 hb).1
  ·exact ih1 b hm
  ·exact ih2 b hm
theorem Lv.frame{w w':World}{Ts ps vs fp}(h:Lv w Ts ps vs fp)(hf:∀b∈fp,w'.heap[b]?=w.heap[b]?):Lv w' Ts ps vs fp:=by
 induction h with
 | nil=>exact .nil
 | int h1 _ ih=>exact .int h1 (ih hf)
 | bool _ ih=>exact .bool (ih hf)
 | str h1 _ ih=>exact .str h1 (ih hf)
 | empty _ ih=>exact .empty (ih hf)
 | list hb hs hl _ hc _ ih1 ih2=>
  refine .list ((hf _ (by simp)).trans hb) hs hl (ih1 fun b hm=>hf b (by simp[hm])) hc (ih2 fun b hm=>hf b (by simp[hm]))
theorem Lv.append{w:World}{Ts ps vs fp Ts' ps' vs' fp'}(h:Lv w Ts ps vs fp)(h':Lv w Ts' ps' vs' fp'):Lv w (Ts++Ts') (ps++ps') (vs++vs') (fp++fp'):=by
 induction h with
 | nil=>exact h'
 | int h1 _ ih=>exact .int h1 ih
 | bool _ ih=>exact .bool ih
 | str h1 _ ih=>exact .str h1 ih
 | empty _ ih=>exact .empty ih
 | @list T es b o cap c t fr cs f1 Ts ps vs fp hb hs hl hc hd _ _ ih2=>
  have:=Lv.list (cap:=cap) hb hs hl hc hd ih2
  simpa[List.append_assoc] using this
theorem Lv.split{w:World}{Ts ps vs fp}(h:Lv w Ts ps vs fp):∀{T1 T2 p1 p2},Ts=T1++T2→ps=p1++p2→T1.length=p1.length →
  ∃v1 v2 f1 f2,vs=v1++v2∧fp=f1++f2∧Lv w T1 p1 v1 f1∧Lv w T2 p2 v2 f2:=by
 induction h with
 | nil=>
  intro T1 T2 p1 p2 h1 h2 hl
  simp at h1 h2
  obtain⟨rfl,rfl⟩:=h1;obtain⟨rfl,rfl⟩:=h2
  exact⟨[],[],[],[],rfl,rfl,.nil,.nil⟩
 | @int k n Ts ps vs fp h1 ht ih=>
  intro T1 T2 p1 p2 e1 e2 hl
  cases T1 with
  | nil=>cases p1 with
   | nil=>simp at e1 e2;subst e1;subst e2;exact⟨[],_,[],_,rfl,rfl,.nil,.int h1 ht⟩
   | cons a b=>simp at hl
  | cons t T1=>cases p1 with
   | nil=>simp at hl
   | cons p p1=>
    simp at e1 e2 hl
    obtain⟨rfl,rfl⟩:=e1;obtain⟨rfl,rfl⟩:=e2
    obtain⟨v1,v2,f1,f2,rfl,rfl,q1,q2⟩:=ih rfl rfl hl
    exact⟨_ :: v1,v2,f1,f2,rfl,rfl,.int h1 q1,q2⟩
 | @bool b Ts ps vs fp ht ih=>
  intro T1 T2 p1 p2 e1 e2 hl
  cases T1 with
  | nil=>cases p1 with
   | nil=>simp at e1 e2;subst e1;subst e2;exact⟨[],_,[],_,rfl,rfl,.nil,.bool ht⟩
   | cons a b=>simp at hl
  | cons t T1=>cases p1 with
   | nil=>simp at hl
   | cons p p1=>
    simp at e1 e2 hl
    obtain⟨rfl,rfl⟩:=e1;obtain⟨rfl,rfl⟩:=e2
    obtain⟨v1,v2,f1,f2,rfl,rfl,q1,q2⟩:=ih rfl rfl hl
    exact⟨_ :: v1,v2,f1,f2,rfl,rfl,.bool q1,q2⟩
 | @str l Ts ps vs fp h1 ht ih=>
  intro T1 T2 p1 p2 e1 e2 hl
  cases T1 with
  | nil=>cases p1 with
   | nil=>simp at e1 e2;subst e1;subst e2;exact⟨[],_,[],_,rfl,rfl,.nil,.str h1 ht⟩
   | cons a b=>simp at hl
  | cons t T1=>cases p1 with
   | nil=>simp at hl
   | cons p p1=>
    simp at e1 e2 hl
    obtain⟨rfl,rfl⟩:=e1;obtain⟨rfl,rfl⟩:=e2
    obtain⟨v1,v2,f1,f2,rfl,rfl,q1,q2⟩:=ih rfl rfl hl
    exact⟨_ :: v1,v2,f1,f2,rfl,rfl,.str h1 q1,q2⟩
 | @empty T a c Ts ps vs fp ht ih=>
  intro T1 T2 p1 p2 e1 e2 hl
  cases T1 with
  | nil=>cases p1 with
   | nil=>simp at e1 e2;subst e1;subst e2;exact⟨[],_,[],_,rfl,rfl,.nil,.empty ht⟩
   | cons a b=>simp at hl
  | cons t T1=>cases p1 with
   | nil=>simp at hl
   | cons p p1=>
    simp at e1 e2 hl
    obtain⟨rfl,rfl⟩:=e1;obtain⟨rfl,rfl⟩:=e2
    obtain⟨v1,v2,f1,f2,rfl,rfl,q1,q2⟩:=ih rfl rfl hl
    exact⟨_ :: v1,v2,f1,f2,rfl,rfl,.empty q1,q2⟩
 | @list T es b o cap c t fr cs f0 Ts ps vs fp hb hs hle hc hd ht ih1 ih=>
  intro T1 T2 p1 p2 e1 e2 hl
  cases T1 with
  | nil=>cases p1 with
   | nil=>simp at e1 e2;subst e1;subst e2;exact⟨[],_,[],_,rfl,rfl,.nil,.list hb hs hle hc hd ht⟩
   | cons a b=>simp at hl
  | cons t T1=>cases p1 with
   | nil=>simp at hl
   | cons p p1=>
    simp at e1 e2 hl
    obtain⟨rfl,rfl⟩:=e1;obtain⟨rfl,rfl⟩:=e2
    obtain⟨v1,v2,f1,f2,rfl,rfl,q1,q2⟩:=ih rfl rfl hl
    exact⟨_ :: v1,v2,b :: f0++f1,f2,rfl,by simp[List.append_assoc],.list hb hs hle hc hd q1,q2⟩
theorem Lv.cons_inv{w:World}{T Ts p ps vs fp}(h:Lv w (T :: Ts) (p :: ps) vs fp) :
  ∃v vs' f1 f2,vs=v :: vs'∧fp=f1++f2∧Lv w [T] [p] [v] f1∧Lv w Ts ps vs' f2:=by
 obtain⟨v1,v2,f1,f2,rfl,rfl,q1,q2⟩:=h.split (T1:=[T]) (p1:=[p]) rfl rfl rfl
 obtain⟨_,hv⟩:=q1.lens
 match v1,hv with
 | [v],_=>exact⟨v,v2,f1,f2,rfl,rfl,q1,q2⟩
theorem Lv.cons{w:World}{T Ts p ps v vs f1 f2}(h:Lv w [T] [p] [v] f1)(h':Lv w Ts ps vs f2):Lv w (T :: Ts) (p :: ps) (v :: vs) (f1++f2):=
 Lv.append h h'
theorem Lv.nil_inv{w:World}{vs fp}(h:Lv w [] [] vs fp):vs=[]∧fp=[]:=by cases h;exact⟨rfl,rfl⟩
theorem Lv.int_inv{w:World}{k p v fp}(h:Lv w [.int k] [p] [v] fp):∃n,p=.int k n∧v=.int k n∧inR k n∧fp=[]:=by
 cases h with | int h1 h2=>cases h2;exact⟨_,rfl,rfl,h1,rfl⟩
theorem Lv.bool_inv{w:World}{p v fp}(h:Lv w [.bool] [p] [v] fp):∃n,p=.bool n∧v=.bool n∧fp=[]:=by
 cases h with | bool h2=>cases h2;exact⟨_,rfl,rfl,rfl⟩
theorem Lv.str_inv{w:World}{p v fp}(h:Lv w [.str] [p] [v] fp):∃l,p=.str l∧v=.string ⟨l.toArray⟩∧l.length≤LIM∧fp=[]:=by
 cases h with | str h1 h2=>cases h2;exact⟨_,rfl,rfl,h1,rfl⟩
theorem Lv.leaf{w:World}{T p v fp}(h:Lv w [T] [p] [v] fp):∀qs,p≠.agg qs:=by
 cases h<;>(intro qs;simp)
theorem Lv.leaves_of{w:World}{Ts ps vs fp}(h:Lv w Ts ps vs fp):∀p∈ps,∀qs,p≠.agg qs:=by
 induction h<;>simp_all
theorem Lv.ty_of{w:World}{Ts ps vs fp}(h:Lv w Ts ps vs fp):∀t∈Ts,t.leaves=[t]:=by
 induction h<;>simp_all [PTy.leaves]
def zNF(mk:Bool)(n:Nat)(fr:Nat × Nat):Prop:=(∀i,i < n→¬(fr.1≤i∧i < fr.2))∧(mk=false→¬(fr.1≤n∧n < fr.2))
theorem zNF.cast{mk:Bool}{n n':Nat}{fr:Nat × Nat}(h:zNF mk n fr)(e:n'=n):zNF mk n' fr:=e ▸ h
theorem zNF.none(mk:Bool)(n:Nat):zNF mk n (0,0):=⟨fun _ _ h=>Nat.not_lt_zero _ h.2,fun _ h=>Nat.not_lt_zero _ h.2⟩
def PTy.u8:PTy→Bool | .int .u8=>true | _=>false
structure zOg (w:World) (v:Value) (wd:Nat) (mk:Bool) (n b:Nat) (cs:List Value):Prop where
 ex:∃o cap c t fr,v=.slice (some ⟨b,o,none⟩) n cap∧w.heap[b]?=some (.cells c t fr)∧o+cap*wd≤c.size∧n≤cap∧cap≤maxLen∧zNF mk c.size fr∧(c.toList.drop o).take cs.length=cs
 len:cs.length=n*wd
 lim:n≤LIM
def zGf(L:List PTy→List PV→List Value→List Nat→Prop)(w:World)(v:Value)(T:PTy)(es:List PV)(fp:List Nat):Prop:=
 (es=[]∧fp=[]∧∃a,v=.slice a 0 0) ∨
 ∃b f1 cs,fp=b :: f1∧zOg w v T.wd T.u8 es.length b cs∧(∀e∈es,Shp T e)∧L (zX T es.length) (zT es) cs f1
inductive LoP (O:Value→PTy→List PV→List Nat→Prop):List PTy→List PV→List Value→List (List Nat)→Prop
 | nil:LoP O [] [] [] []
 | int {k n Ts ps vs fs}:inR k n→LoP O Ts ps vs fs→LoP O (.int k :: Ts) (.int k n :: ps) (.int k n :: vs) ([] :: fs)
 | bool {b Ts ps vs fs}:LoP O Ts ps vs fs→LoP O (.bool :: Ts) (.bool b :: ps) (.bool b :: vs) ([] :: fs)
 | str {l Ts ps vs fs}:l.length≤LIM→LoP O Ts ps vs fs→LoP O (.str :: Ts) (.str l :: ps) (.string ⟨l.toArray⟩ :: vs) ([] :: fs)
 | list {T es v f Ts ps vs fs}:O v T es f→LoP O Ts ps vs fs→LoP O (.list T :: Ts) (.list es :: ps) (v :: vs) (f :: fs)
def zJm(w:World)(v:Value)(T:PTy)(es:List PV)(f:List Nat):Prop:=zBD T=true∧zGf (Lv w) w v T es f
def Lo(w:World)(Ts:List PTy)(ps:List PV)(vs:List Value)(f:List Nat):Prop:=∃fs,f=fs.flatten∧LoP (zJm w) Ts ps vs fs
def zCG(w:World)(v:Value)(T:PTy)(es:List PV)(f:List Nat):Prop:=zGf (Lo w) w v T es f
def zGe(w:World)(v:Value)(T:PTy)(es:List PV)(f:List Nat):Prop:=zGf (Lv w) w v T es f
def LoD(w:World)(Ts:List PTy)(ps:List PV)(vs:List Value)(fs:List (List Nat)):Prop:=LoP (zCG w) Ts ps vs fs
def zOh(w:World)(k:Nat)(v:Value)(T:PTy)(es:List PV)(fp:List Nat):Prop:=
 (es=[]∧fp=[]∧∃a,v=.slice a 0 0) ∨
 ∃b f1 c1 c2,fp=b :: f1∧zOg w v T.wd T.u8 es.length b (c1++c2)∧c1.length=min k es.length*T.wd∧(∀e∈es,Shp T e)∧Lo w (zX T (es.length - k)) (zT (es.drop k)) c2 f1
theorem zOg.frame{w w':World}{v:Value}{wd n b:Nat}{mk:Bool}{cs:List Value}(h:zOg w v wd mk n b cs)(hf:w'.heap[b]?=w.heap[b]?):zOg w' v wd mk n b cs:=by
 obtain⟨⟨o,cap,c,t,fr,h1,h2,h3⟩,h4,h5⟩:=h
 exact⟨⟨o,cap,c,t,fr,h1,hf.trans h2,h3⟩,h4,h5⟩
theorem zOg.inb{w:World}{v:Value}{wd n b:Nat}{mk:Bool}{cs:List Value}(h:zOg w v wd mk n b cs):b < w.heap.size:=by
 obtain⟨⟨o,cap,c,t,fr,h1,h2,h3⟩,h4,h5⟩:=h
 exact(Array.getElem?_eq_some_iff.1 h2).1
theorem LoP.lens{O:Value→PTy→List PV→List Nat→Prop}{Ts ps vs fs}(h:LoP O Ts ps vs fs):Ts.length=ps.length∧vs.length=ps.length∧fs.length=ps.length:=by
 induction h<;>simp_all
theorem LoP.mono{O O':Value→PTy→List PV→List Nat→Prop}{Ts ps vs fs}(h:LoP O Ts ps vs fs)(hO:∀v T es f,f∈fs→O v T es f→O' v T es f):LoP O' Ts ps vs fs:=by
 induction h with
 | nil=>exact .nil
 | int h1 _ ih=>exact .int h1 (ih fun v T es f hf=>hO v T es f (by simp[hf]))
 | bool _ ih=>exact .bool (ih fun v T es f hf=>hO v T es f (by simp[hf]))
 | str h1 _ ih=>exact .str h1 (ih fun v T es f hf=>hO v T es f (by simp[hf]))
 | list h1 _ ih=>exact .list (hO _ _ _ _ (by simp) h1) (ih fun v T es f hf=>hO v T es f (by simp[hf]))
theorem LoP.append{O:Value→PTy→List PV→List Nat→Prop}{Ts ps vs fs Ts' ps' vs' fs'}(h:LoP O Ts ps vs fs)(h':LoP O Ts' ps' vs' fs'):LoP O (Ts++Ts') (ps++ps') (vs++vs') (fs++fs'):=by
 induction h with
 | nil=>exact h'
 | int h1 _ ih=>exact .int h1 ih
 | bool _ ih=>exact .bool ih
 | str h1 _ ih=>exact .str h1 ih
 | list h1 _ ih=>exact .list h1 ih
theorem LoP.split{O:Value→PTy→List PV→List Nat→Prop}{Ts ps vs fs}(h:LoP O Ts ps vs fs):∀{T1 T2 p1 p2},Ts=T1++T2→ps=p1++p2→T1.length=p1.length →
  ∃v1 v2 f1 f2,vs=v1++v2∧fs=f1++f2∧LoP O T1 p1 v1 f1∧LoP O T2 p2 v2 f2:=by
 have nilc:∀{Ts ps vs fs},LoP O Ts ps vs fs→∀{T1 T2:List PTy} {p1 p2:List PV},T1=[]→Ts=T1++T2→ps=p1++p2→T1.length=p1.length →
   ∃v1 v2 f1 f2,vs=v1++v2∧fs=f1++f2∧LoP O T1 p1 v1 f1∧LoP O T2 p2 v2 f2:=by
  intro Ts ps vs fs h T1 T2 p1 p2 h0 e1 e2 hl
  subst h0
  have:p1=[]:=List.eq_nil_of_length_eq_zero hl.symm
  subst this
  simp only[List.nil_append] at e1 e2
  subst e1;subst e2
  exact⟨[],_,[],_,rfl,rfl,.nil,h⟩
 induction h with
 | nil=>
  intro T1 T2 p1 p2 h1 h2 hl
  simp at h1 h2
  obtain⟨rfl,rfl⟩:=h1;obtain⟨rfl,rfl⟩:=h2
  exact⟨[],[],[],[],rfl,rfl,.nil,.nil⟩
 | int h1 ht ih=>
  intro T1 T2 p1 p2 e1 e2 hl
  cases T1 with
  | nil=>exact nilc (.int h1 ht) rfl e1 e2 hl
  | cons t T1=>cases p1 with
   | nil=>simp at hl
   | cons p p1=>
    simp at e1 e2 hl
    obtain⟨rfl,rfl⟩:=e1;obtain⟨rfl,rfl⟩:=e2
    obtain⟨v1,v2,f1,f2,rfl,rfl,q1,q2⟩:=ih rfl rfl hl
    exact⟨_ :: v1,v2,_ :: f1,f2,rfl,rfl,.int h1 q1,q2⟩
 | bool ht ih=>
  intro T1 T2 p1 p2 e1 e2 hl
  cases T1 with
  | nil=>exact nilc (.bool ht) rfl e1 e2 hl
  | cons t T1=>cases p1 with
   | nil=>simp at hl
   | cons p p1=>
    simp at e1 e2 hl
    obtain⟨rfl,rfl⟩:=e1;obtain⟨rfl,rfl⟩:=e2
    obtain⟨v1,v2,f1,f2,rfl,rfl,q1,q2⟩:=ih rfl rfl hl
    exact⟨_ :: v1,v2,_ :: f1,f2,rfl,rfl,.bool q1,q2⟩
 | str h1 ht ih=>
  intro T1 T2 p1 p2 e1 e2 hl
  cases T1 with
  | nil=>exact nilc (.str h1 ht) rfl e1 e2 hl
  | cons t T1=>cases p1 with
   | nil=>simp at hl
   | cons p p1=>
    simp at e1 e2 hl
    obtain⟨rfl,rfl⟩:=e1;obtain⟨rfl,rfl⟩:=e2
    obtain⟨v1,v2,f1,f2,rfl,rfl,q1,q2⟩:=ih rfl rfl hl
    exact⟨_ :: v1,v2,_ :: f1,f2,rfl,rfl,.str h1 q1,q2⟩
 | list h1 ht ih=>
  intro T1 T2 p1 p2 e1 e2 hl
  cases T1 with
  | nil=>exact nilc (.list h1 ht) rfl e1 e2 hl
  | cons t T1=>cases p1 with
   | nil=>simp at hl
   | cons p p1=>
    simp at e1 e2 hl
    obtain⟨rfl,rfl⟩:=e1;obtain⟨rfl,rfl⟩:=e2
    obtain⟨v1,v2,f1,f2,rfl,rfl,q1,q2⟩:=ih rfl rfl hl
    exact⟨_ :: v1,v2,_ :: f1,f2,rfl,rfl,.list h1 q1,q2⟩
theorem LoP.lv{w:World}{O:Value→PTy→List PV→List Nat→Prop}(hO:∀v T es f,O v T es f→Lv w [.list T] [.list es] [v] f){Ts ps vs fs}(h:LoP O Ts ps vs fs):Lv w Ts ps vs fs.flatten:=by
 induction h with
 | nil=>exact .nil
 | int h1 _ ih=>exact .int h1 ih
 | bool _ ih=>exact .bool ih
 | str h1 _ ih=>exact .str h1 ih
 | list h1 _ ih=>exact(hO _ _ _ _ h1).cons ih
theorem zGf.lv{w:World}{L:List PTy→List PV→List Value→List Nat→Prop}(hL:∀Ts ps vs f,L Ts ps vs f→Lv w Ts ps vs f){v T es fp}(h:zGf L w v T es fp):Lv w [.list T] [.list es] [v] fp:=by
 rcases h with ⟨rfl,rfl,a,rfl⟩ | ⟨b,f1,cs,rfl,⟨⟨o,cap,c,t,fr,rfl,h2,h3,h4,h5,h6,h7⟩,h8,h9⟩,hs,hv⟩
 ·exact .empty .nil
 ·have:=Lv.list (o:=o) (cap:=cap) h2 hs ⟨h9,h4⟩ (hL _ _ _ _ hv) h7 .nil
  simpa using this
theorem zGe.lv{w:World}{v T es fp}(h:zGe w v T es fp):Lv w [.list T] [.list es] [v] fp:=zGf.lv (fun _ _ _ _ h=>h) h
theorem zJm.lv{w:World}{v T es fp}(h:zJm w v T es fp):Lv w [.list T] [.list es] [v] fp:=zGe.lv h.2
theorem Lo.lv{w:World}{Ts ps vs f}(h:Lo w Ts ps vs f):Lv w Ts ps vs f:=by
 obtain⟨fs,rfl,h⟩:=h
 exact LoP.lv (fun _ _ _ _ h=>zJm.lv h) h
theorem zCG.lv{w:World}{v T es fp}(h:zCG w v T es fp):Lv w [.list T] [.list es] [v] fp:=zGf.lv (fun _ _ _ _ h=>h.lv) h
theorem LoD.lv{w:World}{Ts ps vs fs}(h:LoD w Ts ps vs fs):Lv w Ts ps vs fs.flatten:=LoP.lv (fun _ _ _ _ h=>zCG.lv h) h
theorem zGf.frame{w w':World}{L L':List PTy→List PV→List Value→List Nat→Prop}{v T es fp}(h:zGf L w v T es fp)(hL:∀Ts ps vs f,(∀b∈f,b∈fp)→L Ts ps vs f→L' Ts ps vs f)(hf:∀b∈fp,w'.heap[b]?=w.heap[b]?):zGf L' w' v T es fp:=by
 rcases h with h | ⟨b,f1,cs,rfl,hr,hs,hv⟩
 ·exact .inl h
 ·exact .inr ⟨b,f1,cs,rfl,hr.frame (hf b (by simp)),hs,hL _ _ _ _ (fun b hb=>by simp[hb]) hv⟩
theorem zGe.frame{w w':World}{v T es fp}(h:zGe w v T es fp)(hf:∀b∈fp,w'.heap[b]?=w.heap[b]?):zGe w' v T es fp:=
 zGf.frame h (fun _ _ _ f hs hv=>hv.frame fun b hb=>hf b (hs b hb)) hf
theorem zJm.frame{w w':World}{v T es fp}(h:zJm w v T es fp)(hf:∀b∈fp,w'.heap[b]?=w.heap[b]?):zJm w' v T es fp:=⟨h.1,zGe.frame h.2 hf⟩
theorem Lo.frame{w w':World}{Ts ps vs f}(h:Lo w Ts ps vs f)(hf:∀b∈f,w'.heap[b]?=w.heap[b]?):Lo w' Ts ps vs f:=by
 obtain⟨fs,rfl,h⟩:=h
 exact⟨fs,rfl,h.mono fun v T es f hm ho=>ho.frame fun b hb=>hf b (List.mem_flatten.2 ⟨f,hm,hb⟩)⟩
theorem zCG.frame{w w':World}{v T es fp}(h:zCG w v T es fp)(hf:∀b∈fp,w'.heap[b]?=w.heap[b]?):zCG w' v T es fp:=
 zGf.frame h (fun _ _ _ f hs hv=>hv.frame fun b hb=>hf b (hs b hb)) hf
theorem LoD.frame{w w':World}{Ts ps vs fs}(h:LoD w Ts ps vs fs)(hf:∀b∈fs.flatten,w'.heap[b]?=w.heap[b]?):LoD w' Ts ps vs fs:=
 h.mono fun v T es f hm ho=>ho.frame fun b hb=>hf b (List.mem_flatten.2 ⟨f,hm,hb⟩)
theorem zOh.frame{w w':World}{k v T es fp}(h:zOh w k v T es fp)(hf:∀b∈fp,w'.heap[b]?=w.heap[b]?):zOh w' k v T es fp:=by
 rcases h with h | ⟨b,f1,c1,c2,rfl,hr,hl,hs,hv⟩
 ·exact .inl h
 ·exact .inr ⟨b,f1,c1,c2,rfl,hr.frame (hf b (by simp)),hl,hs,hv.frame fun b hb=>hf b (by simp[hb])⟩
theorem zOh.inb{w:World}{k v T es fp}(h:zOh w k v T es fp):∀b∈fp,b < w.heap.size:=by
 rcases h with ⟨_,rfl,_⟩ | ⟨b,f1,c1,c2,rfl,hr,hl,hs,hv⟩
 ·simp
 ·intro c hc
  rcases List.mem_cons.1 hc with rfl | hc
  ·exact hr.inb
  ·exact hv.lv.inb c hc
structure GV where
 v:Value
 pre:List Value
 post:List Value
mutual
def SV.val(β:Nat→GV):SV→Value
 | .int k n=>.int k n
 | .bool b=>.bool b
 | .str l=>.string ⟨l.toArray⟩
 | .sl h=>(β h).v
 | .ptr h off=>match (β h).v with | .pointer (some a)=>.pointer (some ⟨a.block,a.off+off,none⟩) | _=>.pointer none
 | .elp h i wd off=>match (β h).v with | .slice (some a) _ _=>.pointer (some ⟨a.block,a.off+i*wd+off,none⟩) | .pointer (some a)=>.pointer (some ⟨a.block,a.off+i*wd+off,none⟩) | _=>.pointer none
 | .agg xs=>.agg (SV.vals β xs).toArray
 | .tup xs=>.tuple (SV.vals β xs).toArray
 | .fn f xs=>.func (.func f) #[] (SV.vals β xs).toArray
 | .nils=>.slice none 0 0
 | .nilp=>.pointer none
 | .glo g i=>.pointer (some ⟨g,i,none⟩)
def SV.vals(β:Nat→GV):List SV→List Value
 | []=>[]
 | x :: xs=>SV.val β x :: SV.vals β xs
end
theorem SV.vals_map(β:Nat→GV)(xs:List SV):SV.vals β xs=xs.map (SV.val β):=by
 induction xs with
 | nil=>rfl
 | cons x xs ih=>simp[SV.vals,ih]
mutual
def SV.lt(n:Nat):SV→Prop
 | .sl h=>h < n
 | .ptr h _=>h < n
 | .elp h _ _ _=>h < n
 | .agg xs=>SV.lts n xs
 | .tup xs=>SV.lts n xs
 | .fn _ xs=>SV.lts n xs
 | _=>True
def SV.lts(n:Nat):List SV→Prop
 | []=>True
 | x :: xs=>SV.lt n x∧SV.lts n xs
end
def zCF:Value→Option (Nat × Nat)
 | .slice (some ⟨b,o,none⟩) _ _=>some (b,o)
 | .pointer (some ⟨b,o,none⟩)=>some (b,o)
 | _=>none
mutual
def SV.ok(β:Nat→GV):SV→Prop
 | .int k n=>inR k n
 | .str l=>l.length≤LIM
 | .ptr h _=>∃b o,(β h).v=.pointer (some ⟨b,o,none⟩)
 | .elp h _ _ _=>∃b o,zCF (β h).v=some (b,o)
 | .agg xs=>SV.oks β xs
 | .tup xs=>SV.oks β xs
 | .fn _ xs=>SV.oks β xs
 | _=>True
def SV.oks(β:Nat→GV):List SV→Prop
 | []=>True
 | x :: xs=>SV.ok β x∧SV.oks β xs
end
theorem zCJ{β:Nat→GV}{h i wd off b o:Nat}(hh:zCF (β h).v=some (b,o)):SV.val β (.elp h i wd off)=.pointer (some ⟨b,o+i*wd+off,none⟩):=by
 unfold zCF at hh
 simp only[SV.val]
 split at hh
 ·rename_i e;cases hh;rw[e]
 ·rename_i e;cases hh;rw[e]
 ·cases hh
theorem SV.lts_iff{n:Nat}{xs:List SV}:SV.lts n xs↔∀x∈xs,SV.lt n x:=by
 induction xs with
 | nil=>simp[SV.lts]
 | cons x xs ih=>simp[SV.lts,ih]
theorem SV.oks_iff{β:Nat→GV}{xs:List SV}:SV.oks β xs↔∀x∈xs,SV.ok β x:=by
 induction xs with
 | nil=>simp[SV.oks]
 | cons x xs ih=>simp[SV.oks,ih]
mutual
theorem SV.val_congr{β β':Nat→GV}{n:Nat}(h:∀k,k < n→β' k=β k):∀x:SV,SV.lt n x→SV.val β' x=SV.val β x
 | .int _ _,_=>rfl
 | .bool _,_=>rfl
 | .str _,_=>rfl
 | .sl i,hx=>by simp only[SV.val];rw[h i hx]
 | .ptr i _,hx=>by simp only[SV.val];rw[h i hx]
 | .elp i _ _ _,hx=>by simp only[SV.val];rw[h i hx]
 | .agg xs,hx=>by simp only[SV.val];rw[SV.vals_congr h xs hx]
 | .tup xs,hx=>by simp only[SV.val];rw[SV.vals_congr h xs hx]
 | .fn f xs,hx=>by simp only[SV.val];rw[SV.vals_congr h xs hx]
 | .nils,_=>rfl
 | .nilp,_=>rfl
 | .glo _ _,_=>rfl
theorem SV.vals_congr{β β':Nat→GV}{n:Nat}(h:∀k,k < n→β' k=β k):∀xs:List SV,SV.lts n xs→SV.vals β' xs=SV.vals β xs
 | [],_=>rfl
 | x :: xs,hx=>by simp only[SV.vals];rw[SV.val_congr h x hx.1,SV.vals_congr h xs hx.2]
end
mutual
theorem SV.ok_congr{β β':Nat→GV}{n:Nat}(h:∀k,k < n→β' k=β k):∀x:SV,SV.lt n x→SV.ok β x→SV.ok β' x
 | .int _ _,_,hk=>hk
 | .bool _,_,hk=>hk
 | .str _,_,hk=>hk
 | .sl i,hx,_=>trivial
 | .ptr i _,hx,⟨b,o,hk⟩=>⟨b,o,by rw[h i hx];exact hk⟩
 | .elp i _ _ _,hx,⟨b,o,hk⟩=>⟨b,o,by rw[h i hx];exact hk⟩
 | .agg xs,hx,hk=>SV.oks_congr h xs hx hk
 | .tup xs,hx,hk=>SV.oks_congr h xs hx hk
 | .fn f xs,hx,hk=>SV.oks_congr h xs hx hk
 | .nils,_,_=>trivial
 | .nilp,_,_=>trivial
 | .glo _ _,_,_=>trivial
theorem SV.oks_congr{β β':Nat→GV}{n:Nat}(h:∀k,k < n→β' k=β k):∀xs:List SV,SV.lts n xs→SV.oks β xs→SV.oks β' xs
 | [],_,_=>trivial
 | x :: xs,hx,hk=>⟨SV.ok_congr h x hx.1 hk.1,SV.oks_congr h xs hx.2 hk.2⟩
end
mutual
theorem SV.lt_mono{n m:Nat}(h:n≤m):∀x:SV,SV.lt n x→SV.lt m x
 | .int _ _,_=>trivial
 | .bool _,_=>trivial
 | .str _,_=>trivial
 | .sl i,hx=>Nat.lt_of_lt_of_le hx h
 | .ptr i _,hx=>Nat.lt_of_lt_of_le hx h
 | .elp i _ _ _,hx=>Nat.lt_of_lt_of_le hx h
 | .agg xs,hx=>SV.lts_mono h xs hx
 | .tup xs,hx=>SV.lts_mono h xs hx
 | .fn f xs,hx=>SV.lts_mono h xs hx
 | .nils,_=>trivial
 | .nilp,_=>trivial
 | .glo _ _,_=>trivial
theorem SV.lts_mono{n m:Nat}(h:n≤m):∀xs:List SV,SV.lts n xs→SV.lts m xs
 | [],_=>trivial
 | x :: xs,hx=>⟨SV.lt_mono h x hx.1,SV.lts_mono h xs hx.2⟩
end
theorem zFy{α:Type}(A:List (Nat × α))(h k:Nat)(x:α):lk (yk A h x) k=if h=k then some x else lk A k:=by
 induction A with
 | nil=>simp[yk,lk]
 | cons a A ih=>
  obtain⟨i,y⟩:=a
  simp only[yk]
  by_cases hi:i=h
  ·subst hi
   simp only[if_true,lk]
   by_cases hk:i=k<;>simp[hk]
  ·simp only[hi,if_false,lk]
   by_cases hk:i=k
   ·subst hk;simp[Ne.symm hi]
   ·simp only[hk,if_false];exact ih
theorem zF0{α:Type}(A B:List (Nat × α))(k:Nat):lk (A++B) k=match lk A k with | some x=>some x | none=>lk B k:=by
 induction A with
 | nil=>simp[lk]
 | cons a A ih=>
  obtain⟨i,y⟩:=a
  simp only[List.cons_append,lk]
  by_cases hk:i=k<;>simp[hk,ih]
theorem zBW(hs:List Nat)(A:Hp)(k:Nat):lk (zK hs A) k=(lk A k).map fun x=>if yw hs k then .dead else zNm hs x:=by
 induction A with
 | nil=>rfl
 | cons a A ih=>
  obtain⟨i,y⟩:=a
  simp only[zK,lk]
  by_cases hk:i=k
  ·subst hk;simp
  ·simp[hk,ih]
theorem zAv(hs:List Nat)(A:Hp)(k:Nat):lk (zFb hs A) k=(lk A k).map fun x=>ze hs (if yw hs k then zk x else x):=by
 induction A with
 | nil=>rfl
 | cons a A ih=>
  obtain⟨i,y⟩:=a
  simp only[zFb,lk]
  by_cases hk:i=k
  ·subst hk;simp
  ·simp[hk,ih]
theorem yK{hs:List Nat}{k:Nat}:yw hs k=true↔k∈hs:=by
 induction hs with
 | nil=>simp[yw]
 | cons x r ih=>
  simp only[yw]
  by_cases h:x=k
  ·simp[h]
  ·simp[h,ih,Ne.symm h]
theorem zFN{hs rs:List Nat}:zLQ hs rs=true↔∃r∈rs,r∈hs:=by
 induction rs with
 | nil=>simp[zLQ]
 | cons x r ih=>
  simp only[zLQ]
  by_cases h:yw hs x=true
  ·simp[h,yK.1 h]
  ·simp only[h,Bool.false_eq_true,if_false,ih,List.mem_cons,exists_eq_or_imp]
   constructor
   ·exact fun q=>.inr q
   ·rintro(q | q)
    ·exact absurd (yK.2 q) h
    ·exact q
theorem zHT{hs:List Nat}:ndB hs=true↔hs.Nodup:=by
 induction hs with
 | nil=>simp[ndB]
 | cons x r ih=>
  simp only[ndB,Bool.and_eq_true,Bool.not_eq_true',List.nodup_cons,ih]
  constructor
  ·rintro⟨h1,h2⟩;exact⟨fun hm=>(by rw[yK.2 hm] at h1;cases h1),h2⟩
  ·rintro⟨h1,h2⟩
   refine⟨?_,h2⟩
   cases h:yw r x with
   | false=>rfl
   | true=>exact absurd (yK.1 h) h1
theorem zAW{A:Hp}{hs:List Nat}:zAX A hs=true↔∀h∈hs,dpB A h=true:=by
 induction hs with
 | nil=>simp[zAX]
 | cons x r ih=>simp[zAX,ih]
theorem zCq{A:Hp}{h:Nat}:dpB A h=true↔∃T es p,lk A h=some (.arr .dp T es p):=by
 unfold dpB
 split
 ·rename_i T es p e;simp[e]
 ·rename_i hn
  simp only[Bool.false_eq_true,false_iff]
  rintro⟨T,es,p,e⟩
  exact hn _ _ _ e
def zDM(T e b:Nat)(l:List UInt8)(w:World)(f:List Nat):Prop:=
 ∃p v,(p=.pointer none∨p=.pointer (some ⟨b,0,none⟩))∧w.heap[b]?=some (.cells #[p,v] T (0,0))∧w.ownsRow 0 e 1 v l.length (l.map fun x=>Value.int .u8 x.toNat)∧v.ownBlock≠some b∧f=b :: v.ownBlock.toList
def zSA(k:Nat)(p:Int):List Value:=match k with
 | 0=>[.int .i64 p,.bool false,.int .i64 0,.pointer none,.pointer none]
 | _=>[.int .i64 p,.int .i64 0,.bool false,.bool true,.pointer none,.pointer none]
def zSB(k:Nat)(r:Bool)(n:Int)(vl vr:Value):List Value:=match k with
 | 0=>[.int .i64 0,.bool r,.int .i64 n,vl,vr]
 | _=>[.int .i64 0,.int .i64 n,.bool r,.bool false,vl,vr]
inductive zLV (k:Nat) (w:World):PV→Value→List Nat→Prop
 | leaf {b t p}:w.heap[b]?=some (.cells (zSA k p).toArray t (0,0))→inR .i64 p→zLV k w (.agg [.int .i64 p]) (.pointer (some ⟨b,0,none⟩)) [b]
 | fork {b t r n L R vl vr fl fr}:w.heap[b]?=some (.cells (zSB k r n vl vr).toArray t (0,0))→inR .i64 n→zLV k w L vl fl→zLV k w R vr fr →
   zLV k w (.agg [.bool r,.int .i64 n,L,R]) (.pointer (some ⟨b,0,none⟩)) (b :: (fl++fr))
theorem zLV.frame{k:Nat}{w w':World}{p:PV}{v:Value}{f:List Nat}(h:zLV k w p v f)(hf:∀b∈f,w'.heap[b]?=w.heap[b]?):zLV k w' p v f:=by
 induction h with
 | leaf h1 h2=>exact .leaf ((hf _ (by simp)).trans h1) h2
 | fork h1 h2 _ _ ih1 ih2=>exact .fork ((hf _ (by simp)).trans h1) h2 (ih1 fun b hb=>hf b (by simp[hb])) (ih2 fun b hb=>hf b (by simp[hb]))
theorem zLV.inb{k:Nat}{w:World}{p:PV}{v:Value}{f:List Nat}(h:zLV k w p v f):∀b∈f,b < w.heap.size:=by
 induction h with
 | leaf h1 h2=>intro b hb;simp only[List.mem_singleton] at hb;subst hb;exact(Array.getElem?_eq_some_iff.1 h1).1
 | fork h1 h2 _ _ ih1 ih2=>
  intro b hb
  simp only[List.mem_cons,List.mem_append] at hb
  rcases hb with rfl | hb | hb
  ·exact(Array.getElem?_eq_some_iff.1 h1).1
  ·exact ih1 b hb
  ·exact ih2 b hb
theorem zLV.ptr{k:Nat}{w:World}{p:PV}{v:Value}{f:List Nat}(h:zLV k w p v f):∃b,v=.pointer (some ⟨b,0,none⟩):=by
 cases h<;>exact⟨_,rfl⟩
def zAC(w:World)(T:PTy)(es:List PV)(v:Value)(f:List Nat):Prop:=
 (zBD T=true∧(∀e∈es,Shp T e)∧∃b t' c,v=.pointer (some ⟨b,0,none⟩)∧f=[b]∧w.heap[b]?=some (.cells c t' (0,0))∧Lv w (zX T es.length) (zT es) c.toList []) ∨
 (T=.opq∧∃k p,es=[.int .i64 k,p]∧zLV k.toNat w p v f∧f.Nodup)
theorem zAC.frame{w w':World}{T:PTy}{es:List PV}{v:Value}{f:List Nat}(h:zAC w T es v f)(hf:∀b∈f,w'.heap[b]?=w.heap[b]?):zAC w' T es v f:=by
 rcases h with ⟨h0,hs,b,t',c,h1,rfl,h3,h4⟩ | ⟨h0,k,p,h1,h2,h3⟩
 ·exact .inl ⟨h0,hs,b,t',c,h1,rfl,(hf b (by simp)).trans h3,h4.frame (by simp)⟩
 ·exact .inr ⟨h0,k,p,h1,h2.frame hf,h3⟩
theorem zAC.inb{w:World}{T:PTy}{es:List PV}{v:Value}{f:List Nat}(h:zAC w T es v f):∀b∈f,b < w.heap.size:=by
 rcases h with ⟨h0,hs,b,t',c,h1,rfl,h3,h4⟩ | ⟨h0,k,p,h1,h2,h3⟩
 ·intro d hd;simp only[List.mem_singleton] at hd;subst hd;exact(Array.getElem?_eq_some_iff.1 h3).1
 ·exact h2.inb
theorem zAC.ptr{w:World}{T:PTy}{es:List PV}{v:Value}{f:List Nat}(h:zAC w T es v f):∃b,v=.pointer (some ⟨b,0,none⟩):=by
 rcases h with ⟨h0,hs,b,t',c,h1,_⟩ | ⟨h0,k,p,h1,h2,h3⟩
 ·exact⟨b,h1⟩
 ·exact h2.ptr
theorem zAC.nd{w:World}{T:PTy}{es:List PV}{v:Value}{f:List Nat}(h:zAC w T es v f):f.Nodup:=by
 rcases h with ⟨h0,hs,b,t',c,h1,rfl,_⟩ | ⟨h0,k,p,h1,h2,h3⟩
 ·simp
 ·exact h3
theorem zAC.flat{w:World}{T:PTy}{es:List PV}{v:Value}{f:List Nat}(h:zAC w T es v f)(hT:T≠.opq) :
  zBD T=true∧(∀e∈es,Shp T e)∧∃b t' c,v=.pointer (some ⟨b,0,none⟩)∧f=[b]∧w.heap[b]?=some (.cells c t' (0,0))∧Lv w (zX T es.length) (zT es) c.toList []:=by
 rcases h with h | ⟨h0,_⟩
 ·exact h
 ·exact absurd h0 hT
def yj(w:World)(g:GV)(β:Nat→GV)(f:List Nat):HL→Prop
 | .dead=>True
 | .bld T e l=>∃b,g.v=.pointer (some ⟨b,0,none⟩)∧zDM T e b l w f
 | .box _ _ cs=>∃b t',g.v=.pointer (some ⟨b,g.pre.length,none⟩)∧f=[b]∧w.heap[b]?=some (.cells (g.pre++SV.vals β cs++g.post).toArray t' (0,0))
 | .arr (.vw _) T es _=>Lv w [.list T] [.list es] [g.v] f
 | .arr .sh T es _=>zGe w g.v T es f
 | .arr .dp T es _=>zCG w g.v T es f
 | .arr (.cs k) T es _=>zOh w k g.v T es f
 | .abx _ T es=>zAC w T es g.v f
def zH(f:List Nat):HL→List Nat
 | .box true _ _=>f
 | .bld _ _ _=>f
 | .abx true _ _=>f
 | .arr .dp _ _ _=>f
 | .arr (.cs _) _ _ _=>f
 | .arr .sh _ _ _=>f.take 1
 | _=>[]
def zE6(f:List Nat):HL→Prop
 | .arr .dp _ _ _=>f.Nodup
 | .arr (.cs _) _ _ _=>f.Nodup
 | .arr .sh _ _ _=>∀b r,f=b :: r→b ∉ r
 | _=>True
def isL:HL→Prop | .arr _ _ _ _=>True | _=>False
def isA:HL→Prop | .arr _ _ _ _=>True | .box true _ _=>True | .abx true _ _=>True | .bld _ _ _=>True | _=>False
theorem isL.isA{hl:HL}(h:isL hl):isA hl:=by cases hl<;>first | trivial | exact h.elim
def zM:HL→List Nat
 | .arr (.vw rs) _ _ _=>rs
 | _=>[]
def zSv(w:World)(v:Value)(i:Nat)(u:Value):Prop:=∃b o c t fr,zCF v=some (b,o)∧w.heap[b]?=some (.cells c t fr)∧c[o+i]?=some u
def subV(v v':Value)(lo n wd:Nat):Prop:=∃ad l cap,v=.slice ad l cap∧v'=.slice (if cap=lo then ad else ad.map fun x=>x.add (lo*wd)) n (cap - lo)
def zFB(A:Hp)(β:Nat→GV)(w:World)(g:GV)(rs:List Nat)(T:PTy)(es:List PV):Pth→Prop
 | .no=>True
 | .el r i j=>r∈rs∧∃T' es' p,lk A r=some (.arr .dp T' es' p)∧i < es'.length∧T'.leaves[j]?=some (.list T)∧(es'.getD i PV.d).leaves[j]?=some (.list es)∧zSv w (β r).v (i*T'.wd+j) g.v
 | .sub r lo=>r∈rs∧∃es' p,(lk A r=some (.arr .dp T es' p)∨lk A r=some (.arr .sh T es' p))∧lo+es.length≤es'.length∧es=(es'.drop lo).take es.length∧subV (β r).v g.v lo es.length T.wd
def zEu(A:Hp)(β:Nat→GV)(w:World)(g:GV):HL→Prop
 | .arr (.vw rs) T es p=>zFB A β w g rs T es p
 | .box _ t _=>t≠0→g.pre=[]∧g.post=[]
 | .abx _ T _=>T=.opq→g.pre=[]∧g.post=[]
 | _=>True
structure zL (B:Nat) (X F:List Nat) (A:Hp) (β:Nat→GV) (ϕ:Nat→List Nat) (w:World):Prop where
 pl:∀h,(β h).v.oneCell'=true
 sat:∀h hl,lk A h=some hl→yj w (β h) β (ϕ h) hl
 own:∀h hl,lk A h=some hl→∀b∈zH (ϕ h) hl,b∈X∨B≤b
 all:∀h hl,lk A h=some hl→isA hl→∀b∈ϕ h,b∈F∨B≤b
 nd:∀h hl,lk A h=some hl→zE6 (ϕ h) hl
 dj:∀h h' hl hl',lk A h=some hl→lk A h'=some hl'→h≠h'→h ∉ zM hl'→hl'≠.dead→∀b∈zH (ϕ h) hl,b ∉ ϕ h'
 pt:∀h hl,lk A h=some hl→zEu A β w (β h) hl
 rt:∀h hl,lk A h=some hl→∀r∈zM hl,∀o t cs,lk A r≠some (.box o t cs)
structure Fr (w0:World) (X:List Nat) (w:World):Prop where
 os:w.os=w0.os
 tape:w.tape=w0.tape
 output:w.output=w0.output
 size:w0.heap.size≤w.heap.size
 block:∀b,b < w0.heap.size→b ∉ X→w.heap[b]?=w0.heap[b]?
theorem Fr.refl(w:World)(X:List Nat):Fr w X w:=⟨rfl,rfl,rfl,Nat.le_refl _,fun _ _ _=>rfl⟩
theorem Fr.trans{a b c:World}{X Y Z:List Nat}(h:Fr a X b)(k:Fr b Y c)(hX:∀x∈X,x∈Z)(hY:∀x∈Y,x∈Z∨a.heap.size≤x):Fr a Z c:=by
 refine⟨k.os.trans h.os,k.tape.trans h.tape,k.output.trans h.output,Nat.le_trans h.size k.size,fun i hi hn=>?_⟩
 rw[k.block i (Nat.lt_of_lt_of_le hi h.size) (fun hm=>by rcases hY i hm with q | q;exact hn q;omega),h.block i hi (fun hm=>hn (hX i hm))]
def GlV(b:Bool)(v:Value):Prop:=match b with
 | true=>v=.nilIface∨∃t x,v=.iface t x
 | false=>∃m,v=.int .i64 m
structure zPG (w:World) (X:List Nat):Prop where
 dat:∀g T es,lk GT g=some (T,es)→zZ.s g=true→g ∉ X∧∃c t,w.heap[g]?=some (.cells c t (0,0))∧zBD T=true∧(∀e∈es,Shp T e)∧Lv w (zX T es.length) (zT es) c.toList []
 one:∀g b,lk GE g=some b→zZ.s g=true→g ∉ X∧∃v t,w.heap[g]?=some (.cells #[v] t (0,0))∧GlV b v
theorem zPG.now{w0 w:World}{X ms:List Nat}(h:zPG w0 X)(fr:Fr w0 X w)(hm:∀b∈ms,b∈X∨w0.heap.size≤b):zPG w ms:=by
 constructor
 ·intro g T es hg hl
  obtain⟨q1,c,t,q2,q3,q4,q5⟩:=h.dat g T es hg hl
  have hlt:g < w0.heap.size:=(Array.getElem?_eq_some_iff.1 q2).1
  exact⟨fun hx=>(hm g hx).elim q1 (fun h=>by omega),c,t,by rw[fr.block g hlt q1];exact q2,q3,q4,q5.frame (by simp)⟩
 ·intro g b hg hl
  obtain⟨q1,v,t,q2,q3⟩:=h.one g b hg hl
  have hlt:g < w0.heap.size:=(Array.getElem?_eq_some_iff.1 q2).1
  exact⟨fun hx=>(hm g hx).elim q1 (fun h=>by omega),v,t,by rw[fr.block g hlt q1];exact q2,q3⟩
def HL.ltOk(n:Nat)(β:Nat→GV):HL→Prop
 | .box _ _ cs=>SV.lts n cs∧SV.oks β cs
 | .arr (.vw rs) _ _ _=>∀r∈rs,r < n
 | _=>True
structure Sat (N:Nat) (w0:World) (X F:List Nat) (S:St) (β:Nat→GV) (ϕ:Nat→List Nat) (a:Act) (w:World):Prop where
 df:a.defers=[]
 sz:a.tmps.size=N
 lp:∀t v,lk S.Lp t=some v→a.tmps[t]?=some (SV.val β v)∧SV.lt S.n v∧SV.ok β v
 lt:∀t g v,lk S.Lt t=some (g,v)→(g=true→SV.lt S.n v)∧(g=true→a.tmps[t]?=some (SV.val β v)∧SV.ok β v)∧(g=false→a.tmps[t]?=some undef)
 hp:zL w0.heap.size X F S.A β ϕ w
 hb:∀h hl,lk S.A h=some hl→h < S.n∧hl.ltOk S.n β
 fr:Fr w0 X w
 gl:zPG w0 X
end
section
variable [zZ]
section
variable {P:Program} {E:Env} {N:Nat} {w0:World} {X F:List Nat} {S:St} {β:Nat→GV} {ϕ:Nat→List Nat} {a:Act} {w w':World} {o:Oper} {R:RR} {A A':Hp} {B:Nat}
def upd{α:Type}(f:Nat→α)(n:Nat)(v:α):Nat→α:=fun k=>if k=n then v else f k
theorem zs{α:Type}(f:Nat→α)(n:Nat)(v:α){k:Nat}(h:k < n):upd f n v k=f k:=by
 unfold upd;rw[if_neg (by omega)]
theorem zBw{α:Type}(f:Nat→α)(n:Nat)(v:α){k:Nat}(h:k≠n):upd f n v k=f k:=by
 unfold upd;rw[if_neg h]
theorem zi{α:Type}(f:Nat→α)(n:Nat)(v:α):upd f n v n=v:=by simp[upd]
theorem zLa(pl:∀h,(β h).v.oneCell'=true):∀(x:SV),x.leafB=true→(SV.val β x).oneCell'=true:=by
 intro x hx
 cases x<;>simp only[SV.val,SV.leafB,Bool.false_eq_true] at hx ⊢<;>(try rfl)
 ·exact pl _
 ·split<;>rfl
 ·split<;>rfl
theorem zE2{v:Value}(h:v.oneCell'=true):v.cells=#[v]:=by
 cases v<;>first | rfl | (simp[Value.oneCell'] at h)
theorem zCb(pl:∀h,(β h).v.oneCell'=true)(x:SV):(SV.val β x).cells=(SV.vals β x.cells).toArray:=by
 by_cases hx:x.leafB=true
 ·rw[zE2 (zLa pl x hx)]
  have:x.cells=[x]:=by cases x<;>first | rfl | (simp[SV.leafB] at hx)
  simp[this,SV.vals]
 ·cases x<;>simp[SV.leafB] at hx
  ·rfl
  ·rfl
theorem zDM.frame{T e b:Nat}{l:List UInt8}{f:List Nat}(h:zDM T e b l w f)(hf:∀b∈f,w'.heap[b]?=w.heap[b]?):zDM T e b l w' f:=by
 obtain⟨p,v,h1,h2,⟨h3,h4⟩,h5,rfl⟩:=h
 refine⟨p,v,h1,(hf b (by simp)).trans h2,⟨h3,?_⟩,h5,rfl⟩
 rcases h4 with h4 | ⟨g,cap,cur,rfl,h6,h7,h8⟩
 ·exact .inl h4
 ·exact .inr ⟨g,cap,cur,rfl,h6,(hf g (by simp[Value.ownBlock])).trans h7,h8⟩
theorem zDM.inb{T e b:Nat}{l:List UInt8}{f:List Nat}(h:zDM T e b l w f):∀x∈f,x < w.heap.size:=by
 obtain⟨p,v,h1,h2,⟨h3,h4⟩,h5,rfl⟩:=h
 intro x hx
 rcases List.mem_cons.1 hx with rfl | hx
 ·exact(Array.getElem?_eq_some_iff.1 h2).1
 ·rcases h4 with ⟨rfl,_⟩ | ⟨g,cap,cur,rfl,h6,h7,h8⟩
  ·simp[Value.ownBlock] at hx
  ·simp[Value.ownBlock] at hx
   subst hx
   exact(Array.getElem?_eq_some_iff.1 h7).1
theorem yj.frame{g:GV}{f:List Nat}{hl:HL}(h:yj w g β f hl)(hf:∀b∈f,w'.heap[b]?=w.heap[b]?):yj w' g β f hl:=by
 cases hl with
 | dead=>trivial
 | bld T e l=>obtain⟨b,h1,h2⟩:=h;exact⟨b,h1,h2.frame hf⟩
 | box own t cs=>
  obtain⟨b,t',h1,h2,h3⟩:=h
  exact⟨b,t',h1,h2,(hf b (by simp[h2])).trans h3⟩
 | abx own T es=>exact zAC.frame h hf
 | arr o T es p=>
  cases o with
  | vw r=>exact Lv.frame h hf
  | sh=>exact zGe.frame h hf
  | dp=>exact zCG.frame h hf
  | cs k=>exact zOh.frame h hf
theorem yj.inb{g:GV}{f:List Nat}{hl:HL}(h:yj w g β f hl)(hd:hl≠.dead):∀b∈f,b < w.heap.size:=by
 cases hl with
 | dead=>exact absurd rfl hd
 | bld T e l=>obtain⟨b,h1,h2⟩:=h;exact h2.inb
 | box own t cs=>
  obtain⟨b,t',h1,h2,h3⟩:=h
  intro c hc
  rw[h2] at hc
  simp at hc
  subst hc
  exact(Array.getElem?_eq_some_iff.1 h3).1
 | abx own T es=>exact zAC.inb h
 | arr o T es p=>
  cases o with
  | vw r=>exact Lv.inb h
  | sh=>exact(zGe.lv h).inb
  | dp=>exact(zCG.lv h).inb
  | cs k=>exact zOh.inb h
theorem yj.congr{β':Nat→GV}{n:Nat}{g:GV}{f:List Nat}{hl:HL}(h:yj w g β f hl)(hb:∀k,k < n→β' k=β k)(hl':hl.ltOk n β):yj w g β' f hl:=by
 cases hl with
 | dead=>trivial
 | bld T e l=>exact h
 | box own t cs=>
  obtain⟨b,t',h1,h2,h3⟩:=h
  exact⟨b,t',h1,h2,by rw[SV.vals_congr hb cs hl'.1];exact h3⟩
 | abx own T es=>exact h
 | arr o T es p=>cases o<;>exact h
theorem HL.ltOk_congr{β':Nat→GV}{n m:Nat}{hl:HL}(h:hl.ltOk n β)(hb:∀k,k < n→β' k=β k)(hm:n≤m):hl.ltOk m β':=by
 cases hl with
 | box own t cs=>exact⟨SV.lts_mono hm cs h.1,SV.oks_congr hb cs h.1 h.2⟩
 | dead=>trivial
 | bld T e l=>trivial
 | abx own T es=>trivial
 | arr o T es p=>
  cases o<;>(try trivial)
  exact fun r hr=>Nat.lt_of_lt_of_le (h r hr) hm
theorem zU{f:List Nat}{hl:HL}:∀b∈zH f hl,b∈f:=by
 intro b hb
 cases hl with
 | dead=>simp[zH] at hb
 | bld T e l=>exact hb
 | box own t cs=>cases own<;>simp[zH] at hb;exact hb
 | abx own t cs=>cases own<;>simp[zH] at hb;exact hb
 | arr o T es p=>
  cases o<;>simp only[zH,List.not_mem_nil] at hb
  ·exact List.mem_of_mem_take hb
  ·exact hb
  ·exact hb
theorem zL.inb(h:zL B X F A β ϕ w){i:Nat}{hl:HL}(hi:lk A i=some hl)(hd:hl≠.dead):∀b∈ϕ i,b < w.heap.size:=(h.sat i hl hi).inb hd
theorem zPo{v:Value}{T:PTy}{es:List PV}{f:List Nat}(h:Lv w [.list T] [.list es] [v] f){b o:Nat}(ha:zCF v=some (b,o))(hn:es≠[]):b∈f:=by
 cases h with
 | empty h=>exact absurd rfl hn
 | list hb hs hl hv hc ht=>
  simp only[zCF,Option.some.injEq,Prod.mk.injEq] at ha
  simp[ha.1]
theorem zIG(h:zL B X F A β ϕ w){i:Nat}{hl:HL}(hi:lk A i=some hl)(hf:∀i hl,lk A i=some hl→hl≠.dead→∀b∈ϕ i,w'.heap[b]?=w.heap[b]?):zEu A β w' (β i) hl:=by
 have hp:=h.pt i hl hi
 cases hl with
 | arr o T es p=>
  cases o with
  | vw rs=>
   cases p with
   | el r i' j=>
    obtain⟨h1,T',es',p',h2,h3,h4,h5,b,o,c,t,fr,h6,h7,h8⟩:=hp
    refine⟨h1,T',es',p',h2,h3,h4,h5,b,o,c,t,fr,h6,?_,h8⟩
    have hL:Lv w [.list T'] [.list es'] [(β r).v] (ϕ r):=zCG.lv (h.sat r _ h2)
    exact(hf r _ h2 (by simp) b (zPo hL h6 (by intro e;subst e;simp at h3))).trans h7
   | sub r lo=>exact hp
   | no=>trivial
  | _=>trivial
 | box _ _ _=>exact hp
 | abx _ _ _=>exact hp
 | _=>trivial
theorem zL.world(h:zL B X F A β ϕ w)(hf:∀i hl,lk A i=some hl→hl≠.dead→∀b∈ϕ i,w'.heap[b]?=w.heap[b]?):zL B X F A β ϕ w':=
 ⟨h.pl,fun i hl hi=>by
   by_cases hd:hl=.dead
   ·subst hd;trivial
   ·exact(h.sat i hl hi).frame (hf i hl hi hd),h.own,h.all,h.nd,h.dj,fun i hl hi=>zIG h hi hf,h.rt⟩
theorem zL.grow(h:zL B X F A β ϕ w)(hf:∀b,b < w.heap.size→w'.heap[b]?=w.heap[b]?):zL B X F A β ϕ w':=
 h.world fun i hl hi hd b hb=>hf b (h.inb hi hd b hb)
def yB(A:Hp)(ϕ:Nat→List Nat)(G:List Nat):Prop:=∀i hl,lk A i=some hl→hl≠.dead→∀b∈ϕ i,b ∉ G
theorem yB.mono{G H:List Nat}(h:yB A ϕ G)(hs:∀b∈H,b∈G):yB A ϕ H:=fun i hl hi hd b hb hm=>h i hl hi hd b hb (hs b hm)
def Bd(n:Nat)(β:Nat→GV)(A:Hp):Prop:=∀i hl,lk A i=some hl→i < n∧hl.ltOk n β
theorem zNl{hs:List Nat}{hl0:HL}(h:zNm hs hl0≠.dead):zNm hs hl0=hl0∧hl0≠.dead∧∀r∈zM hl0,r ∉ hs:=by
 cases hl0 with
 | dead=>exact absurd rfl h
 | bld _ _ _=>exact⟨rfl,by simp,by simp[zM]⟩
 | box _ _ _=>exact⟨rfl,by simp,by simp[zM]⟩
 | abx _ _ _=>exact⟨rfl,by simp,by simp[zM]⟩
 | arr o T es p=>
  cases o<;>(try exact⟨rfl,by simp,by simp[zM]⟩)
  rename_i rs
  by_cases hr:zLQ hs rs=true
  ·simp[zNm,hr] at h
  ·refine⟨by simp[zNm,hr],by simp,fun r hr' hm=>hr (zFN.2 ⟨r,hr',hm⟩)⟩
theorem z5{hs:List Nat}{j:Nat}{hl:HL}(h:lk (zK hs A) j=some hl)(hd:hl≠.dead):lk A j=some hl∧j ∉ hs∧∀r∈zM hl,r ∉ hs:=by
 rw[zBW] at h
 cases hA:lk A j with
 | none=>rw[hA] at h;cases h
 | some hl0=>
  rw[hA] at h
  simp only[Option.map_some,Option.some.injEq] at h
  split at h
  ·exact absurd h.symm hd
  ·rename_i hm
   obtain⟨e1,e2,e3⟩:=zNl (hs:=hs) (hl0:=hl0) (by rw[h];exact hd)
   rw[e1] at h;subst h
   exact⟨rfl,fun e=>hm (yK.2 e),e3⟩
theorem zKo{hs:List Nat}{j:Nat}{hl:HL}(h:lk (zK hs A) j=some hl):∃hl0,lk A j=some hl0∧(hl=.dead∨hl=hl0):=by
 by_cases hd:hl=.dead
 ·rw[zBW] at h
  cases hA:lk A j with
  | none=>rw[hA] at h;cases h
  | some hl0=>exact⟨hl0,rfl,.inl hd⟩
 ·exact⟨hl,(z5 h hd).1,.inr rfl⟩
theorem yY{hs:List Nat}{j:Nat}{hl:HL}(hj:j∈hs)(h:lk (zK hs A) j=some hl):hl=.dead:=by
 rw[zBW] at h
 cases hA:lk A j with
 | none=>rw[hA] at h;cases h
 | some hl0=>
  rw[hA] at h
  simp only[Option.map_some,yK.2 hj,if_true,Option.some.injEq] at h
  exact h.symm
theorem zAi{hs:List Nat}{j:Nat}{hl:HL}(h:lk A j=some hl)(h1:j ∉ hs)(h2:∀r∈zM hl,r ∉ hs):lk (zK hs A) j=some hl:=by
 rw[zBW,h]
 have hm:yw hs j=false:=by
  cases e:yw hs j with
  | false=>rfl
  | true=>exact absurd (yK.1 e) h1
 simp only[Option.map_some,hm,Bool.false_eq_true,if_false,Option.some.injEq]
 cases hl with
 | arr o T es p=>
  cases o<;>(try rfl)
  rename_i rs
  have:zLQ hs rs=false:=by
   cases e:zLQ hs rs with
   | false=>rfl
   | true=>obtain⟨r,hr,hm⟩:=zFN.1 e;exact absurd hm (h2 r hr)
  simp[zNm,this]
 | _=>rfl
theorem zL.struck(h:zL B X F A β ϕ w)(hs:List Nat):zL B X F (zK hs A) β ϕ w:=by
 have key:∀{j hl},lk (zK hs A) j=some hl→hl≠.dead→lk A j=some hl:=fun hj hd=>(z5 hj hd).1
 refine⟨h.pl,?_,?_,?_,?_,?_,?_,?_⟩
 ·intro j hl hj
  by_cases hd:hl=.dead
  ·subst hd;trivial
  ·exact h.sat j hl (key hj hd)
 ·intro j hl hj
  by_cases hd:hl=.dead
  ·subst hd;simp[zH]
  ·exact h.own j hl (key hj hd)
 ·intro j hl hj hd;exact h.all j hl (key hj (by intro e;subst e;exact hd)) hd
 ·intro j hl hj
  by_cases hd:hl=.dead
  ·subst hd;trivial
  ·exact h.nd j hl (key hj hd)
 ·intro j k hl hl' hj hk hne hnv hdd
  by_cases hd:hl=.dead
  ·subst hd;simp[zH]
  ·exact h.dj j k hl hl' (key hj hd) (key hk hdd) hne hnv hdd
 ·intro j hl hj
  by_cases hd:hl=.dead
  ·subst hd;trivial
  ·obtain⟨e1,e2,e3⟩:=z5 hj hd
   have hp:=h.pt j hl e1
   cases hl with
   | arr o T es p=>
    cases o<;>(try trivial)
    rename_i rs
    cases p with
    | no=>trivial
    | el r i j'=>
     obtain⟨h1,T',es',p',h2,h3⟩:=hp
     exact⟨h1,T',es',p',zAi h2 (e3 r h1) (by simp[zM]),h3⟩
    | sub r lo=>
     obtain⟨h1,es',p',h2,h3⟩:=hp
     refine⟨h1,es',p',?_,h3⟩
     rcases h2 with h2 | h2
     ·exact .inl (zAi h2 (e3 r h1) (by simp[zM]))
     ·exact .inr (zAi h2 (e3 r h1) (by simp[zM]))
   | box _ _ _=>exact hp
   | abx _ _ _=>exact hp
   | _=>trivial
 ·intro j hl hj r hr o t cs hb
  have hd:hl≠.dead:=by intro e;subst e;simp[zM] at hr
  exact h.rt j hl (key hj hd) r hr o t cs (key hb (by simp))
theorem yN{n:Nat}(h:Bd n β A)(hs:List Nat):Bd n β (zK hs A):=by
 intro j hl hj
 obtain⟨hl0,h1,h2⟩:=zKo hj
 rcases h2 with rfl | rfl
 ·exact⟨(h j hl0 h1).1,trivial⟩
 ·exact h j hl h1
theorem zt(h:zL B X F A β ϕ w){hs:List Nat}{G:List Nat}(hG:∀b∈G,∃i∈hs,∃hl,lk A i=some hl∧b∈zH (ϕ i) hl):yB (zK hs A) ϕ G:=by
 intro j hl hj hd b hb hm
 obtain⟨e1,e2,e3⟩:=z5 hj hd
 obtain⟨i,hi,hl',hl1,ho⟩:=hG b hm
 exact h.dj i j hl' hl hl1 e1 (fun e=>e2 (e ▸ hi)) (fun hr=>e3 i hr hi) hd b ho hb
theorem zL.put(h:zL B X F A β ϕ w){n:Nat}{hl0:HL}{f:List Nat}(hA:∀i,lk A' i=if i=n then some hl0 else lk A i)(hd:∀hl,lk A n=some hl→hl=.dead)
  (hs:yj w (β n) β f hl0) (ho:∀b∈zH f hl0,b∈X∨B≤b) (ha:isA hl0→∀b∈f,b∈F∨B≤b) (hn:zE6 f hl0)
  (h1:yB A ϕ (zH f hl0)) (h2:∀i hl,lk A i=some hl→i ∉ zM hl0→∀b∈zH (ϕ i) hl,b ∉ f) (hp:zEu A β w (β n) hl0)
  (hr1:∀o t cs,hl0=.box o t cs→∀i hl,lk A i=some hl→n ∉ zM hl) (hr2:∀r∈zM hl0,r≠n∧∀o t cs,lk A r≠some (.box o t cs)):zL B X F A' β (upd ϕ n f) w:=by
 have hlk:∀i hl,lk A' i=some hl→(i=n∧hl=hl0)∨(i≠n∧lk A i=some hl):=by
  intro i hl hi
  rw[hA] at hi
  split at hi
  ·rename_i e;cases hi;exact .inl ⟨e,rfl⟩
  ·rename_i e;exact .inr ⟨e,hi⟩
 have pth:∀g hl,zEu A β w g hl→zEu A' β w g hl:=by
  intro g hl hp
  cases hl with
  | arr o T es p=>
   cases o<;>(try trivial)
   rename_i rs
   cases p with
   | no=>trivial
   | el r i j=>
    obtain⟨h1,T',es',p',h2,h3⟩:=hp
    have hrn:r≠n:=fun e=>by subst e;have:=hd _ h2;cases this
    exact⟨h1,T',es',p',by rw[hA,if_neg hrn];exact h2,h3⟩
   | sub r lo=>
    obtain⟨h1,es',p',h2,h3⟩:=hp
    have hrn:r≠n:=fun e=>by subst e;rcases h2 with h2 | h2<;>(have:=hd _ h2;cases this)
    exact⟨h1,es',p',by rw[hA,if_neg hrn];exact h2,h3⟩
  | box _ _ _=>exact hp
  | abx _ _ _=>exact hp
  | _=>trivial
 refine⟨h.pl,?_,?_,?_,?_,?_,?_,?_⟩
 ·intro i hl hi
  rcases hlk i hl hi with ⟨rfl,rfl⟩ | ⟨hne,hi'⟩
  ·rw[zi];exact hs
  ·rw[zBw _ _ _ hne];exact h.sat i hl hi'
 ·intro i hl hi
  rcases hlk i hl hi with ⟨rfl,rfl⟩ | ⟨hne,hi'⟩
  ·rw[zi];exact ho
  ·rw[zBw _ _ _ hne];exact h.own i hl hi'
 ·intro i hl hi
  rcases hlk i hl hi with ⟨rfl,rfl⟩ | ⟨hne,hi'⟩
  ·rw[zi];exact ha
  ·rw[zBw _ _ _ hne];exact h.all i hl hi'
 ·intro i hl hi
  rcases hlk i hl hi with ⟨rfl,rfl⟩ | ⟨hne,hi'⟩
  ·rw[zi];exact hn
  ·rw[zBw _ _ _ hne];exact h.nd i hl hi'
 ·intro i j hl hl' hi hj hne hnv hdd
  rcases hlk i hl hi with ⟨rfl,rfl⟩ | ⟨hne1,hi'⟩
  ·rcases hlk j hl' hj with ⟨rfl,rfl⟩ | ⟨hne2,hj'⟩
   ·exact absurd rfl hne
   ·rw[zi,zBw _ _ _ hne2];exact fun b hb hm=>h1 j hl' hj' hdd b hm hb
  ·rcases hlk j hl' hj with ⟨rfl,rfl⟩ | ⟨hne2,hj'⟩
   ·rw[zi,zBw _ _ _ hne1];exact h2 i hl hi' hnv
   ·rw[zBw _ _ _ hne1,zBw _ _ _ hne2];exact h.dj i j hl hl' hi' hj' hne hnv hdd
 ·intro i hl hi
  rcases hlk i hl hi with ⟨rfl,rfl⟩ | ⟨hne,hi'⟩
  ·exact pth _ _ hp
  ·exact pth _ _ (h.pt i hl hi')
 ·intro i hl hi r hr o t cs hb
  rcases hlk r _ hb with ⟨rfl,e⟩ | ⟨hne,hb'⟩
  ·rcases hlk i hl hi with ⟨rfl,rfl⟩ | ⟨hne,hi'⟩
   ·exact(hr2 _ hr).1 rfl
   ·exact hr1 o t cs e.symm i hl hi' hr
  ·rcases hlk i hl hi with ⟨rfl,rfl⟩ | ⟨hne,hi'⟩
   ·exact(hr2 _ hr).2 o t cs hb'
   ·exact h.rt i hl hi' r hr o t cs hb'
theorem zL.ext(h:zL B X F A β ϕ w){n:Nat}(hb:Bd n β A){g:GV}(hv:g.v.oneCell'=true):zL B X F A (upd β n g) ϕ w:=by
 have hb':∀k,k < n→upd β n g k=β k:=fun k hk=>zs _ _ _ hk
 refine⟨?_,?_,h.own,h.all,h.nd,h.dj,?_,h.rt⟩
 ·intro i;unfold upd;split
  ·exact hv
  ·exact h.pl i
 ·intro i hl hi
  rw[hb' i (hb i hl hi).1]
  exact(h.sat i hl hi).congr hb' (hb i hl hi).2
 ·intro i hl hi
  rw[hb' i (hb i hl hi).1]
  have hp:=h.pt i hl hi
  cases hl with
  | arr o T es p=>
   cases o<;>(try trivial)
   rename_i rs
   cases p with
   | no=>trivial
   | el r i' j=>
    obtain⟨h1,T',es',p',h2,h3,h4,h5,h6⟩:=hp
    exact⟨h1,T',es',p',h2,h3,h4,h5,by rw[hb' r (hb r _ h2).1];exact h6⟩
   | sub r lo=>
    obtain⟨h1,es',p',h2,h3,h4,h5⟩:=hp
    have hr:r < n:=by rcases h2 with h2 | h2<;>exact(hb r _ h2).1
    exact⟨h1,es',p',h2,h3,h4,by rw[hb' r hr];exact h5⟩
  | box _ _ _=>exact hp
  | abx _ _ _=>exact hp
  | _=>trivial
theorem zL.add(h:zL B X F A β ϕ w){n:Nat}{hl0:HL}{g:GV}{f:List Nat}(hb:Bd n β A)(hv:g.v.oneCell'=true)
  (hs:yj w g (upd β n g) f hl0) (ho:∀b∈zH f hl0,b∈X∨B≤b) (ha:isA hl0→∀b∈f,b∈F∨B≤b) (hn:zE6 f hl0)
  (h1:yB A ϕ (zH f hl0)) (h2:∀i hl,lk A i=some hl→i ∉ zM hl0→∀b∈zH (ϕ i) hl,b ∉ f) (hp:zEu A (upd β n g) w g hl0) (hlt:∀r∈zM hl0,r < n)
  (hr2:∀r∈zM hl0,∀o t cs,lk A r≠some (.box o t cs)) :
  zL B X F ((n,hl0) :: A) (upd β n g) (upd ϕ n f) w:=by
 have hnone:∀hl,lk A n≠some hl:=fun hl hi=>by have:=(hb n hl hi).1;omega
 refine(h.ext hb hv).put (n:=n) ?_ (fun hl hi=>absurd hi (hnone hl)) (by rw[zi];exact hs) ho ha hn h1 h2 (by rw[zi];exact hp) ?_ ?_
 ·intro i
  simp only[lk]
  by_cases hi:n=i
  ·simp[hi]
  ·simp[hi,Ne.symm hi]
 ·intro o t cs e i hl hi hm
  have h3:=(hb i hl hi).2
  cases hl with
  | arr o' T es p=>
   cases o'<;>simp only[zM,List.not_mem_nil] at hm
   have:=h3 n hm;omega
  | _=>simp[zM] at hm
 ·intro r hr
  exact⟨by have:=hlt r hr;omega,hr2 r hr⟩
theorem zAh{n:Nat}{hl0:HL}{g:GV}(hn:Bd n β A)(h0:hl0.ltOk (n+1) (upd β n g)):Bd (n+1) (upd β n g) ((n,hl0) :: A):=by
 intro i hl hi
 simp only[lk] at hi
 by_cases hin:n=i
 ·subst hin;simp at hi;subst hi;exact⟨by omega,h0⟩
 ·rw[if_neg hin] at hi
  obtain⟨h1,h2⟩:=hn i hl hi
  exact⟨by omega,HL.ltOk_congr h2 (fun k hk=>zs _ _ _ hk) (by omega)⟩
theorem zCB{n k:Nat}{hl0:HL}(h:Bd n β A)(hA:∀i,lk A' i=if i=k then some hl0 else lk A i)(hk:k < n)(h0:hl0.ltOk n β):Bd n β A':=by
 intro i hl hi
 rw[hA] at hi
 split at hi
 ·rename_i e;cases hi;exact⟨by omega,h0⟩
 ·exact h i hl hi
theorem zP{hl0:HL}(A:Hp)(n i:Nat):lk (yk A n hl0) i=if i=n then some hl0 else lk A i:=by
 rw[zFy]
 by_cases h:n=i
 ·simp[h]
 ·simp[h,Ne.symm h]
theorem zA4{n:Nat}{hl0:HL}{f G:List Nat}(h:yB A ϕ G)(hA:∀i,lk A' i=if i=n then some hl0 else lk A i)(hf:∀b∈f,b ∉ G):yB A' (upd ϕ n f) G:=by
 intro i hl hi hd b hb' hm
 rw[hA] at hi
 split at hi
 ·rename_i e;subst e;rw[zi] at hb';exact hf b hb' hm
 ·rename_i e;rw[zBw _ _ _ e] at hb';exact h i hl hi hd b hb' hm
theorem zBC{hl0:HL}{n:Nat}(A:Hp)(i:Nat):lk ((n,hl0) :: A) i=if i=n then some hl0 else lk A i:=by
 simp only[lk]
 by_cases h:n=i
 ·simp[h]
 ·simp[h,Ne.symm h]
theorem zL.redo(h:zL B X F A β ϕ w){n:Nat}{hl1 hl0:HL}{f:List Nat}(hA:∀i,lk A' i=if i=n then some hl0 else lk (zK [n] A) i)(hn:lk A n=some hl1)
  (hs:yj w' (β n) β f hl0) (hf:∀b∈f,b∈zH (ϕ n) hl1∨(b∈ϕ n∧b ∉ zH f hl0)) (hw:∀k,k < w.heap.size→k ∉ zH (ϕ n) hl1→w'.heap[k]?=w.heap[k]?) (hnd:zE6 f hl0) (hvw:∀rs T es p,hl0≠.arr (.vw rs) T es p) (hro1:zM hl1=[]) (hdd:hl1≠.dead) (hia:isA hl0→isA hl1)
  (hbx:∀o t cs,hl0=.box o t cs→∃o cs,hl1=.box o t cs) (habx:∀o T es,hl0=.abx o T es→∃o es,hl1=.abx o T es:=by intro _ _ _ e;cases e):zL B X F A' β (upd ϕ n f) w':=by
 have h1:=h.struck [n]
 have ap:yB (zK [n] A) ϕ (zH (ϕ n) hl1):=zt h fun b hb=>⟨n,by simp,hl1,hn,hb⟩
 have h2:zL B X F (zK [n] A) β ϕ w':=h1.world fun i hl hi hd b hb=>hw b (h1.inb hi hd b hb) (ap i hl hi hd b hb)
 have hof:∀b∈zH f hl0,b∈zH (ϕ n) hl1:=fun b hb=>by
  rcases hf b (zU b hb) with h | h
  ·exact h
  ·exact absurd hb h.2
 refine h2.put hA (fun hl hi=>yY (by simp) hi) hs (fun b hb=>h.own n _ hn b (hof b hb)) ?_ hnd (ap.mono hof) ?_ ?_ ?_ ?_
 ·intro hi b hb
  rcases hf b hb with h3 | h3
  ·exact h.all n _ hn (hia hi) b (zU b h3)
  ·exact h.all n _ hn (hia hi) b h3.1
 ·intro i hl hi _ b hb hm
  by_cases hd:hl=.dead
  ·subst hd;simp[zH] at hb
  ·obtain⟨e1,e2,e3⟩:=z5 hi hd
   have hin:i≠n:=by simpa using e2
   rcases hf b hm with h3 | h3
   ·exact ap i hl hi hd b (zU b hb) h3
   ·exact h.dj i n hl hl1 e1 hn hin (by simp[hro1]) hdd b hb h3.1
 ·cases hl0 with
  | arr o T es p=>cases o<;>first | trivial | exact absurd rfl (hvw _ _ _ _)
  | box o t cs=>obtain⟨o',cs',rfl⟩:=hbx _ _ _ rfl;exact h.pt n _ hn
  | abx o T es=>obtain⟨o',es',rfl⟩:=habx _ _ _ rfl;exact h.pt n _ hn
  | _=>trivial
 ·intro o t cs e i hl hi hm
  have hd:hl≠.dead:=by intro e;subst e;simp[zM] at hm
  obtain⟨e1,e2,e3⟩:=z5 hi hd
  exact e3 n hm (by simp)
 ·have:zM hl0=[]:=by
   cases hl0 with
   | arr o T es p=>cases o<;>first | rfl | exact absurd rfl (hvw _ _ _ _)
   | _=>rfl
  rw[this];simp
end
end
section
variable [zZ]
def zCZ:PTy→Value
 | .int k=>.int k 0 | .bool=>.bool false | .str=>.string ⟨#[]⟩ | .list _=>.slice none 0 0 | .fn _ _=>.nilFunc | _=>.pointer none
structure yX (P:Program) (t:TypeId) (ti:TI):Prop where
 und:P.underlying t=some ti.d
 info:∃i,P.info? t=some i∧i.size=ti.sz∧i.bytes=ti.bytes∧∃z:Value,i.zero=some z∧z.cells=(ti.leaves.map zCZ).toArray
 agg:ti.agg=(match ti.d with | .struct _ | .array _ _=>true | _=>false)
 flds:∀(f off ft:Nat),ti.flds[f]?=some (off,ft)→∃(fs:Array Field) (fd:Field),ti.d=.struct fs∧fs[f]?=some fd∧fd.offset=off∧fd.type=ft
 fsz:∀(fs:Array Field),ti.d=.struct fs→∀f∈fs,∃i,P.info? f.type=some i
 pos:0 < ti.sz
 bpos:0 < ti.bytes
 one:ti.agg=false→ti.sz=1
 lf:∀t∈ti.leaves,t.leaves=[t]
 nf:∀t∈ti.leaves,∀f l,t≠.fn f l
 eqs:ti.eqb=true→P.stoodInHeld t=false∧P.eqGuardType P.depth t=false
def zAQ(P:Program)(E:Env):Prop:=∀t ti,lk E.ty t=some ti→yX P t ti
section
variable {P:Program} {E:Env} {N:Nat} {w0:World} {X F:List Nat} {S:St} {β:Nat→GV} {ϕ:Nat→List Nat} {a:Act} {w:World}
theorem zCN{t:TypeId}{ti:TI}(h:yX P t ti)(w:World):(underlying t).run P w=.ok ti.d w:=by
 simp[underlying,h.und]
theorem yZ{t:TypeId}{ti:TI}(h:yX P t ti)(w:World):(sizeOf t).run P w=.ok ti.sz w:=by
 obtain⟨i,hi,hs,_⟩:=h.info
 simp[sizeOf,typeInfo,hi,hs]
theorem zBz{t:TypeId}{ti:TI}(h:yX P t ti)(w:World):(isAgg t).run P w=.ok ti.agg w:=by
 simp only[isAgg,Sem.run_bind,zCN h,Result.andThen_ok,h.agg]
 cases ti.d<;>rfl
theorem zDT{c:Value}{x:SV}(h:zD6 c=some x)(β:Nat→GV):SV.val β x=c∧(∀n,SV.lt n x)∧SV.ok β x∧x.leafB=true:=by
 unfold zD6 at h
 split at h
 ·split at h
  ·cases h;exact⟨rfl,fun _=>trivial,by assumption,rfl⟩
  ·cases h
 ·cases h;exact⟨rfl,fun _=>trivial,trivial,rfl⟩
 ·split at h
  ·cases h
   refine⟨?_,fun _=>trivial,by assumption,rfl⟩
   rename_i s _
   cases s;simp[SV.val]
  ·cases h
 ·cases h;exact⟨rfl,fun _=>trivial,trivial,rfl⟩
 ·cases h;exact⟨rfl,fun _=>trivial,trivial,rfl⟩
 ·cases h
theorem zDS:∀{cs:List Value} {xs:List SV},zD5 cs=some xs→∀(β:Nat→GV),SV.vals β xs=cs∧(∀n,SV.lts n xs)∧SV.oks β xs
 | [],xs,h,β=>by cases h;exact⟨rfl,fun _=>trivial,trivial⟩
 | c :: cs,xs,h,β=>by
  simp only[zD5] at h
  split at h
  ·rename_i x ys hx hy
   cases h
   obtain⟨h1,h2,h3,_⟩:=zDT hx β
   obtain⟨k1,k2,k3⟩:=zDS hy β
   exact⟨by simp[SV.vals,h1,k1],fun n=>⟨h2 n,k2 n⟩,h3,k3⟩
  ·cases h
theorem zHR{c:Value}{x:SV}(h:zHS c=some x)(β:Nat→GV):SV.val β x=c∧(∀n,SV.lt n x)∧SV.ok β x:=by
 unfold zHS at h
 split at h
 ·split at h
  ·rename_i xs hx
   cases h
   obtain⟨h1,h2,h3⟩:=zDS hx β
   exact⟨by simp[SV.val,h1],fun n=>h2 n,h3⟩
  ·cases h
 ·obtain⟨h1,h2,h3,_⟩:=zDT h β
  exact⟨h1,h2,h3⟩
theorem zGp{t:Nat}{g:Bool}{v:SV}(h:S.slot t=some (g,v))(sat:Sat N w0 X F S β ϕ a w) :
  (g=true→SV.lt S.n v)∧(g=true→a.tmps[t]?=some (SV.val β v)∧SV.ok β v)∧(g=false→a.tmps[t]?=some undef):=by
 unfold St.slot at h
 split at h
 ·rename_i x hx
  cases h
  exact sat.lt t g v hx
 ·split at h
  ·rename_i u hu
   cases h
   obtain⟨h1,h2,h3⟩:=sat.lp t v hu
   exact⟨fun _=>h2,fun _=>⟨h1,h3⟩,fun h=>by cases h⟩
  ·cases h
theorem zD{x:Operand}{g:Bool}{v:SV}(h:S.ev x=some (g,v))(sat:Sat N w0 X F S β ϕ a w) :
  (g=true→SV.lt S.n v)∧(g=true→a.eval x=SV.val β v∧SV.ok β v):=by
 unfold St.ev at h
 split at h
 ·obtain⟨h1,h2,_⟩:=zGp h sat
  refine⟨h1,fun hg=>⟨?_,(h2 hg).2⟩⟩
  simp[Act.eval,(h2 hg).1]
 ·split at h
  ·rename_i c x hx
   cases h
   obtain⟨h1,h2,h3⟩:=zHR hx β
   exact⟨fun _=>h2 _,fun _=>⟨h1.symm,h3⟩⟩
  ·cases h
 ·cases h
  exact⟨fun _=>trivial,fun _=>⟨rfl,trivial⟩⟩
 ·cases h
  exact⟨fun _=>trivial,fun _=>⟨rfl,trivial⟩⟩
theorem yV{g:Bool}:∀{xs:List Operand} {o:Prop} {vs:List SV},evs S g xs=some (o,vs)→Sat N w0 X F S β ϕ a w →
  (g=true→o→SV.lts S.n vs)∧(g=true→o→xs.map a.eval=SV.vals β vs∧SV.oks β vs)
 | [],o,vs,h,sat=>by cases h;exact⟨fun _ _=>trivial,fun _ _=>⟨rfl,trivial⟩⟩
 | x :: xs,o,vs,h,sat=>by
  simp only[evs] at h
  split at h
  ·rename_i g' v o' vs' h1 h2
   cases h
   obtain⟨a1,a2⟩:=zD h1 sat
   obtain⟨b1,b2⟩:=yV h2 sat
   refine⟨fun hg ho=>⟨a1 (ho.1 hg),b1 hg ho.2⟩,fun hg ho=>?_⟩
   obtain⟨c1,c2⟩:=a2 (ho.1 hg)
   obtain⟨d1,d2⟩:=b2 hg ho.2
   exact⟨by simp[SV.vals,c1,d1],c2,d2⟩
  ·cases h
structure zLU (w0:World) (X F:List Nat) (S:St) (R:RR) (β:Nat→GV) (ϕ:Nat→List Nat) (d:Option Nat) (v:Value) (w':World) (β':Nat→GV) (ϕ':Nat→List Nat):Prop where
 v:d≠none→v=SV.val β' R.sv
 bt:∀h,h < S.n→β' h=β h
 hp:zL w0.heap.size X F R.A β' ϕ' w'
 hb:Bd R.n β' R.A
 lt:SV.lt R.n R.sv
 ok:SV.ok β' R.sv
 n:S.n≤R.n
 fr:Fr w0 X w'
def zRa(P:Program)(o:Oper)(a:Act)(w:World)(v:Value)(w':World):Prop:=
 (execOp a.eval o).run P w=.ok (.value v) w'∨((execOp a.eval o).run P w=.ok .skip w'∧v=undef)
theorem zRa.wp{o:Oper}{v:Value}{w':World}(h:zRa P o a w v w'){next:Act→World→Prop}{Q:Exit→Act→World→Prop}(hn:next (a.put o.dst v) w'):o.wp P a w next Q:=by
 unfold Oper.wp
 rcases h with h | ⟨h,rfl⟩
 ·rw[h];exact hn
 ·rw[h];exact hn
theorem zIE{hy ob:Prop}{sv:SV}{d:Option Nat}(sat:Sat N w0 X F S β ϕ a w)(lt:SV.lt S.n sv)(ok:SV.ok β sv):zLU w0 X F S ⟨hy,ob,sv,S.A,S.n⟩ β ϕ d (SV.val β sv) w β ϕ:=
 ⟨fun _=>rfl,fun _ _=>rfl,sat.hp,sat.hb,lt,ok,Nat.le_refl _,sat.fr⟩
theorem zAD(k:IntKind)(n:Int):inR k (k.wrap n):=by
 unfold inR IntKind.wrap IntKind.min IntKind.max
 cases k<;>simp[IntKind.signed,IntKind.bits]<;>(try split)<;>omega
theorem zMg{n:Nat}(h:n≤LIM):inR .i64 n:=by
 unfold inR IntKind.min IntKind.max LIM at *
 simp[IntKind.signed,IntKind.bits];omega
theorem zNx{k:IntKind}{x y:Int}(h:inR k x)(hy:y≠0):inR k (x.tmod y):=by
 unfold inR at *
 have h0:k.min≤0∧0≤k.max:=by cases k<;>decide
 have h1:=Int.natAbs_tmod x y
 have h2:=Nat.mod_le x.natAbs y.natAbs
 rcases Int.le_total 0 x with hx | hx
 ·have h3:0≤x.tmod y:=Int.tmod_nonneg _ hx
  omega
 ·have h4:x.tmod y=- ((-x).tmod y):=by rw[Int.neg_tmod];omega
  have h3:0≤(-x).tmod y:=Int.tmod_nonneg _ (by omega)
  omega
theorem zNy{k:IntKind}{x:Int}(h:inR k x)(n:Nat):inR k (x.fdiv (2 ^ n)):=by
 unfold inR at *
 have h0:k.min≤0∧0≤k.max:=by cases k<;>decide
 have hp:(0:Int) < 2 ^ n:=Int.pow_pos (by decide)
 rw[Int.fdiv_eq_ediv_of_nonneg _ (by omega)]
 rcases Int.le_total 0 x with hx | hx
 ·have h1:0≤x / 2 ^ n:=Int.ediv_nonneg hx (by omega)
  have h2:x / 2 ^ n≤x:=Int.ediv_le_self _ hx
  omega
 ·have h1:x / 2 ^ n≤0:=by
   have:=Int.ediv_le_ediv hp hx
   simpa using this
  have h2:x≤x / 2 ^ n:=by
   rw[Int.le_ediv_iff_mul_le hp]
   have:x*2 ^ n≤x*1:=Int.mul_le_mul_of_nonpos_left hx (by omega)
   omega
  omega
end
end
section
variable [zZ]
section
variable {P:Program} {E:Env} {N:Nat} {w0:World} {X F:List Nat} {S:St} {β:Nat→GV} {ϕ:Nat→List Nat} {a:Act} {w:World} {o:Oper} {R:RR}
def zAJ(o:Op):Prop:=
 match o with
 | .move _=>True | .pick _ _ _=>True | .load _ _=>True | .fieldAddr _ _ _=>True | .indexAddr _ _ _=>True | .index _ _ _=>True | .binOp _ _ _ _ _=>True | .unOp _ _ _=>True | .nilCheck _=>True | .extract _ _=>True | .build _ _=>True
 | .call c=>match c.callee with | .builtin .len=>True | .builtin .min=>True | .builtin .max=>True | _=>False
 | _=>False
def zAn(o:Op):Prop:=
 match o with
 | .convert _ _ _=>True | .slice _ _ _ _ _=>True
 | _=>False
def zEF(o:Op):Prop:=
 match o with
 | .move _=>True | .pick _ _ _=>True | .load _ _=>True | .fieldAddr _ _ _=>True | .indexAddr _ _ _=>True | .index _ _ _=>True | .binOp _ _ _ _ _=>True | .unOp _ _ _=>True | .nilCheck _=>True | .extract _ _=>True | .build _ _=>True
 | .assign _=>True | .box _ _=>True | .alloc _=>True | .makeSlice _ _ _=>True | .buildSlice _ _ _=>True | .convert _ _ _=>True | .slice _ _ _ _ _=>True | .makeFunc _ _ _=>True
 | .call c=>match c.callee with | .builtin .len=>True | .builtin .min=>True | .builtin .max=>True | _=>False
 | _=>False
def Snd(P:Program)(w0:World)(X F:List Nat)(S:St)(β:Nat→GV)(ϕ:Nat→List Nat)(o:Oper)(a:Act)(w:World)(R:RR):Prop:=
 R.hy∧∃v w' β' ϕ',zRa P o a w v w'∧zLU w0 X F S R β ϕ o.dst v w' β' ϕ'∧(zAJ o.op∨(zAn o.op∧R.n=S.n)→w'=w∧(execOp a.eval o).run P w=.ok (.value v) w∧(R.n=S.n∨∀w1,Fr w [] w1→(execOp a.eval o).run P w1=.ok (.value v) w1))∧(zEF o.op→Fr w [] w')
theorem zR{hy ob:Prop}{sv:SV}(sat:Sat N w0 X F S β ϕ a w)(hh:hy)(hr:(execOp a.eval o).run P w=.ok (.value (SV.val β sv)) w)(lt:SV.lt S.n sv)(ok:SV.ok β sv) :
  Snd P w0 X F S β ϕ o a w ⟨hy,ob,sv,S.A,S.n⟩:=⟨hh,_,w,β,ϕ,.inl hr,zIE sat lt ok,fun _=>⟨rfl,hr,.inl rfl⟩,fun _=>Fr.refl _ _⟩
theorem zSH{x:Operand}(ho:o.op=.move x)(hR:za E S true o=some R)(sat:Sat N w0 X F S β ϕ a w)(hob:R.ob):Snd P w0 X F S β ϕ o a w R:=by
 unfold za at hR
 rw[ho] at hR
 simp only at hR
 split at hR
 ·rename_i g v hv
  cases hR
  obtain⟨h1,h2⟩:=zD hv sat
  replace h1:=h1 (hob rfl)
  obtain⟨h3,h4⟩:=h2 (hob rfl)
  exact zR sat trivial (by simp[execOp,ho,h3]) h1 h4
 ·cases hR
theorem zSG{c x y:Operand}(ho:o.op=.pick c x y)(hR:za E S true o=some R)(sat:Sat N w0 X F S β ϕ a w)(hob:R.ob):Snd P w0 X F S β ϕ o a w R:=by
 unfold za at hR
 rw[ho] at hR
 simp only at hR
 split at hR
 ·rename_i gc b ga y1 gb z1 hc hx hy
  cases hR
  obtain⟨q1,q2,q3⟩:=hob rfl
  obtain⟨_,c2⟩:=zD hc sat
  obtain⟨_,x2⟩:=zD hx sat
  obtain⟨_,y2⟩:=zD hy sat
  have hcv:=(c2 q1).1
  refine zR sat trivial ?_ trivial trivial
  cases b
  ·have hyv:=(y2 (q3 rfl)).1
   simp[execOp,ho,hcv,hyv,SV.val,asBool]
  ·have hxv:=(x2 (q2 rfl)).1
   simp[execOp,ho,hcv,hxv,SV.val,asBool]
 ·cases hR
theorem zHC{op:BinOp}{k k':IntKind}{x y:Int}{ob:Prop}{sv:SV}(h:binI op k x k' y=some (ob,sv))(hob:ob)(hx:inR k x)(β:Nat→GV)(t:TypeId) :
  (binOp op t (.int k x) (.int k' y)).run P w=.ok (SV.val β sv) w∧(∀n,SV.lt n sv)∧SV.ok β sv:=by
 cases op<;>simp only[binI,Option.some.injEq,Prod.mk.injEq] at h<;>obtain⟨rfl,rfl⟩:=h
 case add=>subst hob;exact⟨by simp[binOp,Op.intArith,SV.val],fun _=>trivial,zAD _ _⟩
 case sub=>subst hob;exact⟨by simp[binOp,Op.intArith,SV.val],fun _=>trivial,zAD _ _⟩
 case mul=>subst hob;exact⟨by simp[binOp,Op.intArith,SV.val],fun _=>trivial,zAD _ _⟩
 case quo=>obtain⟨rfl,h⟩:=hob;exact⟨by simp[binOp,Op.intDiv,SV.val,h],fun _=>trivial,zAD _ _⟩
 case rem=>obtain⟨rfl,h⟩:=hob;exact⟨by simp[binOp,Op.intDiv,SV.val,h],fun _=>trivial,zNx hx h⟩
 case and=>subst hob;exact⟨by simp[binOp,Op.intBits,SV.val,zPC],fun _=>trivial,zAD _ _⟩
 case or=>subst hob;exact⟨by simp[binOp,Op.intBits,SV.val,orI],fun _=>trivial,zAD _ _⟩
 case xor=>subst hob;exact⟨by simp[binOp,Op.intBits,SV.val,xorI],fun _=>trivial,zAD _ _⟩
 case andNot=>subst hob;exact⟨by simp[binOp,Op.intBits,SV.val,zM9],fun _=>trivial,zAD _ _⟩
 case shl=>exact⟨by simp[binOp,Op.shift,SV.val,shlI,Int.not_lt.2 hob],fun _=>trivial,zAD _ _⟩
 case shr=>exact⟨by simp[binOp,Op.shift,SV.val,shrI,Int.not_lt.2 hob],fun _=>trivial,zNy hx _⟩
 case eql=>subst hob;exact⟨by simp[binOp,Op.intCmp,SV.val],fun _=>trivial,trivial⟩
 case neq=>subst hob;exact⟨by simp[binOp,Op.intCmp,SV.val],fun _=>trivial,trivial⟩
 case lss=>subst hob;exact⟨by simp[binOp,Op.intCmp,SV.val],fun _=>trivial,trivial⟩
 case leq=>subst hob;exact⟨by simp[binOp,Op.intCmp,SV.val],fun _=>trivial,trivial⟩
 case gtr=>subst hob;exact⟨by simp[binOp,Op.intCmp,SV.val],fun _=>trivial,trivial⟩
 case geq=>subst hob;exact⟨by simp[binOp,Op.intCmp,SV.val],fun _=>trivial,trivial⟩
theorem zFZ(l:List UInt8):(ByteArray.mk l.toArray).toList=l:=by
 rw[ByteArray.toList_eq]
theorem zHB{op:BinOp}{x y:List UInt8}{ob:Prop}{sv:SV}(h:binS op x y=some (ob,sv))(hob:ob)(β:Nat→GV)(t:TypeId) :
  (binOp op t (.string ⟨x.toArray⟩) (.string ⟨y.toArray⟩)).run P w=.ok (SV.val β sv) w∧(∀n,SV.lt n sv)∧SV.ok β sv:=by
 cases op<;>simp only[binS,Option.some.injEq,Prod.mk.injEq,reduceCtorEq] at h<;>obtain⟨rfl,rfl⟩:=h
 case add=>
  have h1:¬(((ByteArray.mk x.toArray).size+(ByteArray.mk y.toArray).size:Nat):Int) > IntKind.i64.max:=by
   have:IntKind.i64.max=9223372036854775807:=by decide
   rw[this];simp[ByteArray.size,LIM] at *;omega
  refine⟨?_,fun _=>trivial,by simpa[SV.ok] using hob⟩
  simp only[binOp,Op.stringOp,if_neg h1,SV.val,Sem.run_pure]
  have h2:(ByteArray.mk x.toArray)++(ByteArray.mk y.toArray)=⟨(x++y).toArray⟩:=by apply ByteArray.ext;simp
  rw[h2]
 all_goals
  refine⟨?_,fun _=>trivial,trivial⟩
  simp[binOp,Op.stringOp,zFZ,SV.val,bne]
theorem zE3(d:Nat){t:TypeId}(ht:P.underlying t=some .bool)(x y:Bool):(Op.equalIn (d+1) t (.bool x) (.bool y)).run P w=.ok (x == y) w:=by
 simp only[Op.equalIn,underlying,Sem.run_bind,run_program,Result.andThen_ok,ht,Sem.run_pure]
theorem zFg(d:Nat){t e:TypeId}(ht:P.underlying t=some (.slice e))(ad:Option Addr)(l c:Nat):(Op.equalIn (d+1) t (.slice ad l c) (.slice none 0 0)).run P w=.ok ad.isNone w:=by
 simp only[Op.equalIn,underlying,Sem.run_bind,run_program,Result.andThen_ok,ht]
 cases ad<;>rfl
theorem zDw{t e:TypeId}(ht:P.underlying t=some (.slice e))(ad:Option Addr)(l c:Nat):(Op.equal t (.slice ad l c) (.slice none 0 0)).run P w=.ok ad.isNone w:=
 zFg 9999 ht ad l c
theorem yO{t e:TypeId}(ht:P.underlying t=some (.pointer e))(p:Option Addr):(Op.equal t (.pointer p) (.pointer none)).run P w=.ok p.isNone w:=by
 have h:∀d,(Op.equalIn (d+1) t (.pointer p) (.pointer none)).run P w=.ok p.isNone w:=by
  intro d
  simp only[Op.equalIn,underlying,Sem.run_bind,run_program,Result.andThen_ok,ht]
  cases p<;>rfl
 exact h 9999
theorem zAt{t:TypeId}(ht:P.underlying t=some .bool)(x y:Bool):(Op.equal t (.bool x) (.bool y)).run P w=.ok (x == y) w:=
 zE3 9999 ht x y
theorem zGK{E:Env}(hT:zAQ P E)(β:Nat→GV)(d:Nat)(cs ds:Array Value):∀(fs:List Field) (i:Nat) (xs ys:List SV) (b:Bool),zRl E.ty i fs (zKp xs)=true→zE8 xs ys=some b →
  (∀j v,(SV.vals β xs)[j]?=some v→cs[i+j]?=some v)→(∀j v,(SV.vals β ys)[j]?=some v→ds[i+j]?=some v)→(Op.eqFields (d+1) cs ds fs).run P w=.ok b w
 | [],i,xs,ys,b,h1,h2,_,_=>by
  cases xs with
  | nil=>
   cases ys with
   | nil=>simp only[zE8,Option.some.injEq] at h2;subst h2;simp[Op.eqFields]
   | cons y ys=>cases y<;>simp[zE8] at h2
  | cons x xs=>cases x<;>simp[zKp,zRl] at h1
 | f :: fs,i,xs,ys,b,h1,h2,h3,h4=>by
  cases xs with
  | nil=>simp[zKp,zRl] at h1
  | cons x xs=>
   cases ys with
   | nil=>cases x<;>simp[zE8] at h2
   | cons y ys=>
    have key:∀(s:Nat) (v1 v2:Value) (e:Bool) (r:Bool),zKp (x :: xs)=s :: zKp xs→SV.val β x=v1→SV.val β y=v2→(match s with | 0=>∃k a b,v1=.int k a∧v2=.int k b∧e=(a == b) | 1=>∃a b,v1=.bool a∧v2=.bool b∧e=(a == b) | 2=>∃a b:List UInt8,v1=.string ⟨a.toArray⟩∧v2=.string ⟨b.toArray⟩∧e=(a == b) | _=>False)→zE8 xs ys=some r→b=(e&&r)→(Op.eqFields (d+1) cs ds (f :: fs)).run P w=.ok b w:=by
     intro s v1 v2 e r hs hx hy hk hr hb
     rw[hs] at h1
     simp only[zRl,Bool.and_eq_true,bne_iff_ne,ne_eq,beq_iff_eq] at h1
     obtain⟨⟨⟨n1,n2⟩,n3⟩,n4⟩:=h1
     have c1:cs[f.offset]?=some v1:=by rw[n2];exact h3 0 v1 (by simp[SV.vals,hx])
     have c2:ds[f.offset]?=some v2:=by rw[n2];exact h4 0 v2 (by simp[SV.vals,hy])
     have ih:=zGK hT β d cs ds fs (i+1) xs ys r n4 hr (fun j v hj=>by rw[show i+1+j=i+(j+1) by omega];exact h3 (j+1) v (by simpa[SV.vals] using hj)) (fun j v hj=>by rw[show i+1+j=i+(j+1) by omega];exact h4 (j+1) v (by simpa[SV.vals] using hj))
     cases hl:lk E.ty f.type with
     | none=>rw[hl] at n3;simp at n3
     | some tf=>
      rw[hl] at n3
      have hu:=(hT _ _ hl).und
      have fin:P.plainKey f.type=true→(Op.equalIn (d+1) f.type v1 v2).run P w=.ok e w→(Op.eqFields (d+1) cs ds (f :: fs)).run P w=.ok b w:=by
       intro hp he
       simp only[Op.eqFields,n1,ne_eq,not_false_eq_true,if_true,Sem.run_bind,run_part_plain w hp c1,run_part_plain w hp c2,he,Result.andThen_ok]
       cases e with
       | true=>simp only[Bool.not_true,Bool.false_eq_true,if_false];rw[ih,hb];rfl
       | false=>rw[hb];simp
      match s,n3,hk with
      | 0,n3,⟨k,a1,b1,e1,e2,e3⟩=>
       cases hd:tf.d<;>simp[hd] at n3
       rw[hd] at hu
       subst e1;subst e2;subst e3
       exact fin (by unfold Program.plainKey;rw[hu]) (run_equalIn_int w d f.type k _ a1 b1 hu)
      | 1,n3,⟨a1,b1,e1,e2,e3⟩=>
       cases hd:tf.d<;>simp[hd] at n3
       rw[hd] at hu
       subst e1;subst e2;subst e3
       exact fin (by unfold Program.plainKey;rw[hu]) (run_equalIn_bool' w d f.type a1 b1 hu)
      | 2,n3,⟨a1,b1,e1,e2,e3⟩=>
       cases hd:tf.d<;>simp[hd] at n3
       rw[hd] at hu
       subst e1;subst e2;subst e3
       refine fin (by unfold Program.plainKey;rw[hu]) ?_
       rw[run_equalIn_string w d f.type _ _ hu,zFZ,zFZ]
    cases x<;>cases y<;>simp only[zE8,reduceCtorEq] at h2
    ·split at h2
     ·rename_i hk
      subst hk
      split at h2
      ·rename_i r hr
       exact key 0 _ _ _ r rfl rfl rfl ⟨_,_,_,rfl,rfl,rfl⟩ hr (Option.some.inj h2).symm
      ·cases h2
     ·cases h2
    ·split at h2
     ·rename_i r hr
      exact key 1 _ _ _ r rfl rfl rfl ⟨_,_,rfl,rfl,rfl⟩ hr (Option.some.inj h2).symm
     ·cases h2
    ·split at h2
     ·rename_i r hr
      exact key 2 _ _ _ r rfl rfl rfl ⟨_,_,rfl,rfl,rfl⟩ hr (Option.some.inj h2).symm
     ·cases h2
theorem zKT{E:Env}(hT:zAQ P E){t:TypeId}{ti:TI}(hti:yX P t ti){xs ys:List SV}{b:Bool}(h1:eqTy E.ty ti (zKp xs)=true)(h2:zE8 xs ys=some b)(β:Nat→GV) :
  (Op.equalIn 10000 t (.agg (SV.vals β xs).toArray) (.agg (SV.vals β ys).toArray)).run P w=.ok b w∧P.eqGuardType P.depth t=false:=by
 simp only[eqTy,Bool.and_eq_true] at h1
 obtain⟨h0,h1⟩:=h1
 obtain⟨q1,q2⟩:=hti.eqs h0
 refine⟨?_,q2⟩
 cases hd:ti.d<;>rw[hd] at h1<;>simp only[Bool.false_eq_true] at h1
 rename_i fs
 have hu:=hti.und
 rw[hd] at hu
 have hf:P.fieldsOf t=fs:=by unfold Program.fieldsOf;rw[hu]
 rw[run_equalIn_struct w 9999 t _ _ (by rw[hf];exact hu) q1,hf]
 exact zGK hT β 9998 _ _ fs.toList 0 xs ys b h1 h2 (fun j v hj=>by simpa using hj) (fun j v hj=>by simpa using hj)
theorem zPX{op:BinOp}{tx ty:TypeId}{x y:Operand}(hT:zAQ P E)(ho:o.op=.binOp op tx x y ty)(hR:za E S true o=some R)(sat:Sat N w0 X F S β ϕ a w)(hob:R.ob):Snd P w0 X F S β ϕ o a w R:=by
 unfold za at hR
 rw[ho] at hR
 simp only at hR
 split at hR
 ·rename_i g' k x1 g'' k' y1 hx hy
  split at hR
  ·rename_i ob v hv
   cases hR
   obtain⟨_,x2⟩:=zD hx sat
   obtain⟨_,y2⟩:=zD hy sat
   obtain⟨q1,q2,q3⟩:=hob rfl
   obtain⟨r1,r2,r3⟩:=zHC (P:=P) (w:=w) hv q3 (x2 q1).2 β tx
   refine zR sat trivial ?_ (r2 _) r3
   simp[execOp,ho,(x2 q1).1,(y2 q2).1,SV.val,eqGuard,r1]
  ·cases hR
 ·rename_i g' x1 g'' y1 hx hy
  split at hR
  ·rename_i ob v hv
   cases hR
   obtain⟨_,x2⟩:=zD hx sat
   obtain⟨_,y2⟩:=zD hy sat
   obtain⟨q1,q2,q3⟩:=hob rfl
   obtain⟨r1,r2,r3⟩:=zHB (P:=P) (w:=w) hv q3 β tx
   refine zR sat trivial ?_ (r2 _) r3
   simp[execOp,ho,(x2 q1).1,(y2 q2).1,SV.val,eqGuard,r1]
  ·cases hR
 ·rename_i g' x1 g'' y1 hx hy
  obtain⟨_,x2⟩:=zD hx sat
  obtain⟨_,y2⟩:=zD hy sat
  split at hR
  ·rename_i ti hti
   cases hR
   obtain⟨q1,q2,q3⟩:=hob rfl
   have hd:=(hT _ _ hti).und
   rw[q3] at hd
   refine zR sat trivial ?_ trivial trivial
   simp[execOp,ho,(x2 q1).1,(y2 q2).1,SV.val,eqGuard,binOp,zAt hd]
  ·rename_i ti hti
   cases hR
   obtain⟨q1,q2,q3⟩:=hob rfl
   have hd:=(hT _ _ hti).und
   rw[q3] at hd
   refine zR sat trivial ?_ trivial trivial
   simp[execOp,ho,(x2 q1).1,(y2 q2).1,SV.val,eqGuard,binOp,zAt hd,bne]
  ·cases hR
 ·rename_i g' xs g'' ys hx hy
  obtain⟨_,x2⟩:=zD hx sat
  obtain⟨_,y2⟩:=zD hy sat
  split at hR
  ·rename_i ti b hti hb
   cases hR
   obtain⟨q1,q2,q3⟩:=hob rfl
   obtain⟨e1,e2⟩:=zKT (w:=w) hT (hT _ _ hti) q3 hb β
   refine zR sat trivial ?_ trivial trivial
   simp[execOp,ho,(x2 q1).1,(y2 q2).1,SV.val,run_eqGuard_agg w _ _ _ _ _ _ e2,run_eql_struct,e1]
  ·rename_i ti b hti hb
   cases hR
   obtain⟨q1,q2,q3⟩:=hob rfl
   obtain⟨e1,e2⟩:=zKT (w:=w) hT (hT _ _ hti) q3 hb β
   refine zR sat trivial ?_ trivial trivial
   simp[execOp,ho,(x2 q1).1,(y2 q2).1,SV.val,run_eqGuard_agg w _ _ _ _ _ _ e2,run_neq_struct,e1]
  ·cases hR
 ·cases hR
theorem zSF{op:UnOp}{tx:TypeId}{x:Operand}(ho:o.op=.unOp op tx x)(hR:za E S true o=some R)(sat:Sat N w0 X F S β ϕ a w)(hob:R.ob):Snd P w0 X F S β ϕ o a w R:=by
 unfold za at hR
 rw[ho] at hR
 simp only at hR
 split at hR
 ·rename_i g b hx
  cases hR
  obtain⟨_,x2⟩:=zD hx sat
  refine zR sat trivial ?_ trivial trivial
  simp[execOp,ho,(x2 (hob rfl)).1,SV.val,Op.unary]
 ·rename_i g k n hx
  cases hR
  obtain⟨_,x2⟩:=zD hx sat
  refine zR sat trivial ?_ trivial (zAD _ _)
  simp[execOp,ho,(x2 (hob rfl)).1,SV.val,Op.unary,Op.intArith]
 ·rename_i g k n hx
  cases hR
  obtain⟨_,x2⟩:=zD hx sat
  refine zR sat trivial ?_ trivial (zAD _ _)
  simp[execOp,ho,(x2 (hob rfl)).1,SV.val,Op.unary,Op.intBits,xorI]
 ·cases hR
theorem zKq{x:Operand}(ho:o.op=.nilCheck x)(hR:za E S true o=some R)(sat:Sat N w0 X F S β ϕ a w)(hob:R.ob):Snd P w0 X F S β ϕ o a w R:=by
 unfold za at hR
 rw[ho] at hR
 simp only at hR
 split at hR
 ·rename_i g' h off hx
  cases hR
  obtain⟨x1,x2⟩:=zD hx sat
  replace x1:=x1 (hob rfl)
  obtain⟨x3,b,of,hb⟩:=x2 (hob rfl)
  refine zR sat trivial ?_ x1 ⟨b,of,hb⟩
  simp only[SV.val,hb] at x3 ⊢
  simp[execOp,ho,x3]
 ·rename_i g' h i wd off hx
  cases hR
  obtain⟨x1,x2⟩:=zD hx sat
  replace x1:=x1 (hob rfl)
  obtain⟨x3,b,of,hb⟩:=x2 (hob rfl)
  refine zR sat trivial ?_ x1 ⟨b,of,hb⟩
  rw[zCJ hb] at x3 ⊢
  simp[execOp,ho,x3]
 ·cases hR
theorem zPV{tx:TypeId}{x i:Operand}(hT:zAQ P E)(ho:o.op=.index tx x i)(hR:za E S true o=some R)(sat:Sat N w0 X F S β ϕ a w)(hob:R.ob):Snd P w0 X F S β ϕ o a w R:=by
 unfold za at hR
 rw[ho] at hR
 simp only at hR
 split at hR
 ·rename_i g' l g'' k n ti hx hi hti
  cases hR
  obtain⟨q1,q2,q3,q4,q5⟩:=hob rfl
  have hd:=(hT _ _ hti).und
  rw[q5] at hd
  obtain⟨_,x2⟩:=zD hx sat
  obtain⟨_,i2⟩:=zD hi sat
  have hlt:n.toNat < l.length:=by omega
  refine zR sat trivial ?_ trivial ?_
  ·have h1:(ByteArray.mk l.toArray)[n.toNat]?=some (l.getD n.toNat 0):=by
    have:(ByteArray.mk l.toArray).size=l.length:=by simp[ByteArray.size]
    rw[getElem?_pos _ _ (by rw[this];exact hlt)]
    simp[ByteArray.getElem_eq_getElem_data,hlt]
   simp[execOp,ho,(x2 q1).1,(i2 q2).1,SV.val,Instr.index,asIntOf,underlying,hd,q3,h1]
  ·have:=(l.getD n.toNat 0).toNat_lt
   have h1:IntKind.u8.min=0:=rfl
   have h2:IntKind.u8.max=255:=rfl
   simp only[SV.ok,inR,h1,h2]
   omega
 ·cases hR
theorem zLq{x:Operand}{i:Nat}(ho:o.op=.extract x i)(hR:za E S true o=some R)(sat:Sat N w0 X F S β ϕ a w)(hob:R.ob):Snd P w0 X F S β ϕ o a w R:=by
 unfold za at hR
 rw[ho] at hR
 simp only at hR
 split at hR
 ·rename_i g' xs hx
  split at hR
  ·rename_i v hv
   cases hR
   obtain⟨x1,x2⟩:=zD hx sat
   replace x1:=x1 (hob rfl)
   obtain⟨x3,x4⟩:=x2 (hob rfl)
   have hm:v∈xs:=List.mem_of_getElem? hv
   refine zR sat trivial ?_ (SV.lts_iff.1 x1 v hm) (SV.oks_iff.1 x4 v hm)
   simp[execOp,ho,x3,SV.val,Instr.extract,SV.vals_map,hv]
  ·cases hR
 ·cases hR
theorem zKr{fn:Fn}{xs ys:Array Operand}(ho:o.op=.makeFunc fn xs ys)(hR:za E S true o=some R)(sat:Sat N w0 X F S β ϕ a w)(hob:R.ob):Snd P w0 X F S β ϕ o a w R:=by
 unfold za at hR
 rw[ho] at hR
 cases fn
 case func f=>
  dsimp only at hR
  split at hR
  ·rename_i o1 o2 vs h1 h2
   cases hR
   obtain⟨b1,b2⟩:=yV h2 sat
   replace b1:=b1 rfl (hob rfl)
   obtain⟨b3,b4⟩:=b2 rfl (hob rfl)
   have h0:xs=#[]:=by
    cases hx:xs.toList with
    | nil=>exact Array.toList_eq_nil_iff.1 hx
    | cons y r=>
     rw[hx] at h1
     simp only[evs] at h1
     split at h1<;>simp at h1
   refine zR sat trivial ?_ b1 b4
   have h3:Array.map a.eval ys=(SV.vals β vs).toArray:=by
    rw[←b3];apply Array.ext';simp
   simp[execOp,ho,Instr.makeFunc,SV.val,h0,h3]
  ·cases hR
 all_goals (dsimp only at hR;cases hR)
theorem zFf{t:TypeId}{f:Nat}(hT:zAQ P E){ti:TI}{fo ft b off:Nat}(hti:lk E.ty t=some ti)(hf:ti.flds[f]?=some (fo,ft))(hs:(lk E.ty ft).isSome=true) :
  (Instr.fieldAt t (.pointer (some ⟨b,off,none⟩)) f).run P w=.ok (.pointer (some ⟨b,off+fo,none⟩)) w:=by
 have add:∀(b off n:Nat),(⟨b,off,none⟩:Addr).add n=⟨b,off+n,none⟩:=by
  intro b off n;unfold Addr.add;split<;>simp_all
 obtain⟨fs,fd,hd,hfd,rfl,rfl⟩:=(hT _ _ hti).flds _ _ _ hf
 have hu:=(hT _ _ hti).und
 rw[hd] at hu
 obtain⟨tf,htf⟩:=Option.isSome_iff_exists.1 hs
 have hsz:=yZ (hT _ _ htf)
 have hp:=(hT _ _ htf).pos
 simp[Instr.fieldAt,underlying,hu,hfd,Instr.sureAddr,fieldPlace,hsz,Nat.pos_iff_ne_zero.1 hp,add]
theorem zI1{t:TypeId}{x:Operand}{f:Nat}(hT:zAQ P E)(ho:o.op=.fieldAddr t x f)(hR:za E S true o=some R)(sat:Sat N w0 X F S β ϕ a w)(hob:R.ob):Snd P w0 X F S β ϕ o a w R:=by
 unfold za at hR
 rw[ho] at hR
 simp only at hR
 have add:∀(b off n:Nat),(⟨b,off,none⟩:Addr).add n=⟨b,off+n,none⟩:=by
  intro b off n;unfold Addr.add;split<;>simp_all
 have key:∀{ti:TI} {fo ft:Nat} {b off:Nat},lk E.ty t=some ti→ti.flds[f]?=some (fo,ft)→(lk E.ty ft).isSome=true →
   (Instr.fieldAt t (.pointer (some ⟨b,off,none⟩)) f).run P w=.ok (.pointer (some ⟨b,off+fo,none⟩)) w:=by
  intro ti fo ft b off hti hf hs
  obtain⟨fs,fd,hd,hfd,rfl,rfl⟩:=(hT _ _ hti).flds _ _ _ hf
  have hu:=(hT _ _ hti).und
  rw[hd] at hu
  obtain⟨tf,htf⟩:=Option.isSome_iff_exists.1 hs
  have hsz:=yZ (hT _ _ htf)
  have hp:=(hT _ _ htf).pos
  simp[Instr.fieldAt,underlying,hu,hfd,Instr.sureAddr,fieldPlace,hsz,Nat.pos_iff_ne_zero.1 hp,add]
 split at hR
 ·rename_i g' h off ti hx hti
  split at hR
  ·rename_i fo ft hf
   cases hR
   obtain⟨x1,x2⟩:=zD hx sat
   obtain⟨q1,q2⟩:=hob
   replace x1:=x1 (q1 rfl)
   obtain⟨x3,b,of,hb⟩:=x2 (q1 rfl)
   refine zR sat trivial ?_ x1 ⟨b,of,hb⟩
   simp only[SV.val,hb] at x3 ⊢
   simp[execOp,ho,x3,key hti hf q2,Nat.add_assoc]
  ·cases hR
 ·rename_i g' h i wd off ti hx hti
  split at hR
  ·rename_i fo ft hf
   cases hR
   obtain⟨x1,x2⟩:=zD hx sat
   obtain⟨q1,q2⟩:=hob
   replace x1:=x1 (q1 rfl)
   obtain⟨x3,b,of,hb⟩:=x2 (q1 rfl)
   refine zR sat trivial ?_ x1 ⟨b,of,hb⟩
   rw[zCJ hb] at x3 ⊢
   simp[execOp,ho,x3,key hti hf q2,Nat.add_assoc]
  ·cases hR
 ·cases hR
theorem zNi{v:Value}{T:PTy}{es:List PV}{f:List Nat}(h:Lv w [.list T] [.list es] [v] f)(hn:0 < es.length) :
  ∃b off cap c t fr cs f1,v=.slice (some ⟨b,off,none⟩) es.length cap∧f=b :: f1∧w.heap[b]?=some (.cells c t fr)∧(∀e∈es,Shp T e)∧es.length≤LIM ∧
   Lv w (zX T es.length) (zT es) cs f1∧(c.toList.drop off).take cs.length=cs:=by
 cases h with
 | empty h=>simp at hn
 | list hb hs hl hv hc ht=>
  obtain⟨_,rfl⟩:=ht.nil_inv
  exact⟨_,_,_,_,_,_,_,_,rfl,by simp,hb,hs,hl.1,hv,hc⟩
theorem zLK{h:Nat}{w':Own}{T:PTy}{es:List PV}{p:Pth}{B:Nat}{A:Hp}(hp:zL B X F A β ϕ w)(hl:lk A h=some (.arr w' T es p))(hc:∀k,w'≠.cs k):Lv w [.list T] [.list es] [(β h).v] (ϕ h):=by
 have:=hp.sat _ _ hl
 cases w' with
 | vw r=>exact this
 | sh=>exact zGe.lv this
 | dp=>exact zCG.lv this
 | cs k=>exact absurd rfl (hc k)
theorem zLL{h:Nat}{w':Own}{T:PTy}{es:List PV}{p:Pth}(sat:Sat N w0 X F S β ϕ a w)(hl:lk S.A h=some (.arr w' T es p))(hc:∀k,w'≠.cs k):Lv w [.list T] [.list es] [(β h).v] (ϕ h):=zLK sat.hp hl hc
theorem zCk{v:Value}{T:PTy}{es:List PV}{f:List Nat}(h:Lv w [.list T] [.list es] [v] f):es.length≤LIM∧∃c a,v=.slice a es.length c∧es.length≤c:=by
 cases h with
 | empty h=>exact⟨Nat.zero_le _,_,_,rfl,Nat.zero_le _⟩
 | list hb hs hl hv hc ht=>exact⟨hl.1,_,_,rfl,hl.2⟩
theorem zOJ{h:Nat}{w':Own}{T:PTy}{es:List PV}{p:Pth}{B:Nat}{A:Hp}(hp:zL B X F A β ϕ w)(hl:lk A h=some (.arr w' T es p))(hn:0 < es.length):∃b off cap,(β h).v=.slice (some ⟨b,off,none⟩) es.length cap:=by
 by_cases hc:∃k,w'=.cs k
 ·obtain⟨k,rfl⟩:=hc
  rcases hp.sat _ _ hl with ⟨rfl,_⟩ | ⟨b,f1,c1,c2,_,⟨⟨o,cap,c,t,fr,h1,_⟩,_⟩,_⟩
  ·simp at hn
  ·exact⟨_,_,_,h1⟩
 ·obtain⟨b,off,cap,c,t',fr,cs,f1,hv,_⟩:=zNi (zLK hp hl fun k e=>hc ⟨k,e⟩) hn
  exact⟨_,_,_,hv⟩
theorem zI0{t:TypeId}{x i:Operand}(hT:zAQ P E)(ho:o.op=.indexAddr t x i)(hR:za E S true o=some R)(sat:Sat N w0 X F S β ϕ a w)(hob:R.ob):Snd P w0 X F S β ϕ o a w R:=by
 unfold za at hR
 rw[ho] at hR
 simp only at hR
 split at hR
 ·rename_i g' h g'' k n ti hx hi hti
  split at hR
  ·rename_i w' T es p te hl hte
   cases hR
   obtain⟨x1,x2⟩:=zD hx sat
   obtain⟨_,i2⟩:=zD hi sat
   obtain⟨q1,q2,q3,q4,q5⟩:=hob rfl
   obtain⟨b,off,cap,hv⟩:=zOJ sat.hp hl (by omega)
   have ht1:=(hT _ _ hti).und
   rw[q5] at ht1
   have hsz:=yZ (hT _ _ hte)
   have add:∀(b off n:Nat),(⟨b,off,none⟩:Addr).add n=⟨b,off+n,none⟩:=by
    intro b off n;unfold Addr.add;split<;>simp_all
   refine zR sat trivial ?_ (x1 q1) ⟨b,off,by rw[hv];rfl⟩
   simp only[SV.val,hv]
   simp[execOp,ho,(x2 q1).1,(i2 q2).1,SV.val,hv,Instr.indexAt,asIntOf,underlying,ht1,q3,q4,hsz,add]
  ·cases hR
 ·cases hR
end
end
section
variable [zZ]
section
variable {P:Program} {E:Env} {N:Nat} {w0:World} {X F:List Nat} {S:St} {β:Nat→GV} {ϕ:Nat→List Nat} {a:Act} {w w':World} {o:Oper} {R:RR} {A:Hp} {B:Nat}
def gv(v:Value):GV:=⟨v,[],[]⟩
theorem zFR(ts:List PTy):zBq ts=ts.map zDs:=by
 induction ts with
 | nil=>rfl
 | cons t ts ih=>simp[zBq,ih]
theorem zFS(ts:List PTy):zFT ts=ts.map zBg:=by
 induction ts with
 | nil=>rfl
 | cons t ts ih=>simp[zFT,ih]
theorem zNC{n:Nat}{T:PTy}{a:Option Addr}(hp:zL B X F A β ϕ w)(hb:Bd n β A) :
  zL B X F ((n,.arr .dp T [] .no) :: A) (upd β n (gv (.slice a 0 0))) (upd ϕ n []) w∧Bd (n+1) (upd β n (gv (.slice a 0 0))) ((n,.arr .dp T [] .no) :: A):=by
 refine⟨hp.add hb rfl (.inl ⟨rfl,rfl,a,rfl⟩) (by simp[zH]) (by simp) (by simp[zE6]) ?_ (by simp) trivial (by simp[zM]) (by simp[zM]),zAh hb trivial⟩
 intro i hl hi hd b hb' hm
 simp[zH] at hm
theorem zBK:∀(ts:List PTy) (xs:List SV) (n:Nat) (A:Hp) (β:Nat→GV) (ϕ:Nat→List Nat),zL B X F A β ϕ w→Bd n β A→SV.lts n xs→SV.oks β xs →
  ∃β' ϕ',zL B X F ((zAf n ts xs).2.1++A) β' ϕ' w∧Bd (zAf n ts xs).2.2 β' ((zAf n ts xs).2.1++A)∧(∀k,k < n→β' k=β k)∧(∀k,k < n→ϕ' k=ϕ k) ∧
   SV.vals β' (zAf n ts xs).1=SV.vals β xs∧SV.lts (zAf n ts xs).2.2 (zAf n ts xs).1∧SV.oks β' (zAf n ts xs).1∧n≤(zAf n ts xs).2.2∧(zAf n ts xs).1.length=xs.length∧(∀k,k < n→lk ((zAf n ts xs).2.1++A) k=lk A k)
 | [],xs,n,A,β,ϕ,h,hb,hl,hk=>by
  have:zAf n [] xs=(xs,[],n):=by cases xs<;>rfl
  rw[this]
  exact⟨β,ϕ,h,hb,fun _ _=>rfl,fun _ _=>rfl,rfl,hl,hk,Nat.le_refl _,rfl,fun _ _=>rfl⟩
 | t :: ts,[],n,A,β,ϕ,h,hb,hl,hk=>by
  have:zAf n (t :: ts) []=([],[],n):=by cases t<;>rfl
  rw[this]
  exact⟨β,ϕ,h,hb,fun _ _=>rfl,fun _ _=>rfl,rfl,hl,hk,Nat.le_refl _,rfl,fun _ _=>rfl⟩
 | t :: ts,x :: xs,n,A,β,ϕ,h,hb,hl,hk=>by
  by_cases hc:∃T,t=.list T∧x=.nils
  ·obtain⟨T,rfl,rfl⟩:=hc
   obtain⟨h1,h2⟩:=zNC (T:=T) (a:=none) h hb
   have hl':=SV.lts_mono (Nat.le_succ n) xs hl.2
   have hcg:∀k,k < n→upd β n (gv (.slice none 0 0)) k=β k:=fun k hk=>zs _ _ _ hk
   obtain⟨β',ϕ',a1,a2,a3,a4,a5,a6,a7,a8,a9,a10⟩:=zBK ts xs (n+1) _ _ _ h1 h2 hl' (SV.oks_congr hcg xs hl.2 hk.2)
   refine⟨β',ϕ',?_,?_,fun k hk=>(a3 k (by omega)).trans (hcg k hk),fun k hk=>(a4 k (by omega)).trans (zs _ _ _ hk),?_,?_,?_,?_,?_,?_⟩
   ·simpa[zAf,List.append_assoc] using a1
   ·simpa[zAf,List.append_assoc] using a2
   ·simp only[zAf,SV.vals,a5,SV.val]
    rw[a3 n (by omega),zi,SV.vals_congr hcg xs hl.2];rfl
   ·exact⟨by simp only[SV.lt,zAf];omega,a6⟩
   ·exact⟨trivial,a7⟩
   ·simp only[zAf];omega
   ·simp[zAf,a9]
   ·intro k hk
    have:=a10 k (by omega)
    simp only[lk,if_neg (show ¬n=k by omega)] at this
    rw[←this]
    simp[zAf,List.append_assoc]
  ·have hf:zAf n (t :: ts) (x :: xs)=(x :: (zAf n ts xs).1,(zAf n ts xs).2.1,(zAf n ts xs).2.2):=by
    cases t<;>(try rfl)
    cases x<;>(try rfl)
    exact absurd ⟨_,rfl,rfl⟩ hc
   obtain⟨β',ϕ',a1,a2,a3,a4,a5,a6,a7,a8,a9,a10⟩:=zBK ts xs n A β ϕ h hb hl.2 hk.2
   rw[hf]
   refine⟨β',ϕ',a1,a2,a3,a4,?_,⟨SV.lt_mono a8 x hl.1,a6⟩,⟨SV.ok_congr a3 x hl.1 hk.1,a7⟩,a8,by simp[a9],a10⟩
   simp only[SV.vals,a5,SV.val_congr a3 x hl.1]
theorem zBe(w:World)(o:Obj){b:Nat}(h:b < w.heap.size):(w.alloc o).heap[b]?=w.heap[b]?:=heap_alloc_old w o b h
theorem Fr.alloc{w0:World}{X:List Nat}(h:Fr w0 X w)(o:Obj):Fr w0 X (w.alloc o):=
 ⟨h.os,h.tape,h.output,by have:=h.size;show _≤(w.heap.push o).size;simp;omega,fun b hb hn=>(zBe w o (Nat.lt_of_lt_of_le hb h.size)).trans (h.block b hb hn)⟩
theorem zL.addNew(hp:zL w0.heap.size X F A β ϕ w){n:Nat}{hl0:HL}{g:GV}{f:List Nat}(hb:Bd n β A)(hw:Fr w0 X w)(hf:∀b,b < w.heap.size→w'.heap[b]?=w.heap[b]?)(hv:g.v.oneCell'=true)
  (hs:yj w' g (upd β n g) f hl0) (hnew:∀b∈f,w.heap.size≤b) (hn:zE6 f hl0) (hr:zM hl0=[]) (hp0:zEu A (upd β n g) w' g hl0) :
  zL w0.heap.size X F ((n,hl0) :: A) (upd β n g) (upd ϕ n f) w':=by
 have h1:=hp.grow hf
 refine h1.add hb hv hs ?_ ?_ hn ?_ ?_ hp0 (by simp[hr]) (by simp[hr])
 ·intro b hb'
  have:=hnew b (zU b hb')
  have:=hw.size
  exact .inr (by omega)
 ·intro _ b hb'
  have:=hnew b hb'
  have:=hw.size
  exact .inr (by omega)
 ·intro i hl hi hd b hb' hm
  have h2:=hp.inb hi hd b hb'
  have h3:=hnew b (zU b hm)
  omega
 ·intro i hl hi _ b hb' hm
  by_cases hd:hl=.dead
  ·subst hd;simp[zH] at hb'
  ·have h2:=hp.inb hi hd b (zU b hb')
   have h3:=hnew b hm
   omega
theorem zIg{n:Nat}(hp:zL w0.heap.size X F A β ϕ w)(hb:Bd n β A)(fr:Fr w0 X w)(t:Nat)(cs:List SV)(hl:SV.lts n cs)(hk:SV.oks β cs) :
  zL w0.heap.size X F ((n,.box true t cs) :: A) (upd β n (gv (.pointer (some ⟨w.heap.size,0,none⟩)))) (upd ϕ n [w.heap.size]) (w.alloc (.cells (SV.vals β cs).toArray t)) ∧
   Bd (n+1) (upd β n (gv (.pointer (some ⟨w.heap.size,0,none⟩)))) ((n,.box true t cs) :: A):=by
 have hcg:∀k,k < n→upd β n (gv (.pointer (some ⟨w.heap.size,0,none⟩))) k=β k:=fun k hk=>zs _ _ _ hk
 refine⟨hp.addNew hb fr (fun b hb=>zBe w _ hb) rfl ?_ (by simp) trivial rfl (fun _=>⟨rfl,rfl⟩),zAh hb ⟨SV.lts_mono (Nat.le_succ n) cs hl,SV.oks_congr hcg cs hl hk⟩⟩
 exact⟨w.heap.size,t,rfl,rfl,by rw[SV.vals_congr hcg cs hl];simpa[gv] using heap_alloc_new w _⟩
theorem s_box{t:TypeId}{x:Operand}(hT:zAQ P E)(ho:o.op=.box t x)(hR:za E S true o=some R)(sat:Sat N w0 X F S β ϕ a w)(hob:R.ob):Snd P w0 X F S β ϕ o a w R:=by
 unfold za at hR
 rw[ho] at hR
 simp only at hR
 split at hR
 ·rename_i g' v ti hx hti
  cases hR
  obtain⟨_,q2,q3⟩:=hob
  obtain⟨x1,x2⟩:=zD hx sat
  replace x1:=x1 q2
  obtain⟨x3,x4⟩:=x2 q2
  have c1:SV.lts S.n v.cells:=by cases v<;>first | exact x1 | exact⟨x1,trivial⟩
  have c2:SV.oks β v.cells:=by cases v<;>first | exact x4 | exact⟨x4,trivial⟩
  obtain⟨β',ϕ',a1,a2,a3,a4,a5,a6,a7,a8,a9,a10⟩:=zBK ti.leaves v.cells S.n S.A β ϕ sat.hp sat.hb c1 c2
  obtain⟨b1,b2⟩:=zIg a1 a2 sat.fr t _ a6 a7
  refine⟨trivial,_,_,_,_,.inl ?_,⟨fun _=>rfl,?_,b1,b2,?_,?_,?_,sat.fr.alloc _⟩,fun h=>by simp[zAJ,zAn,ho] at h,fun _=>(Fr.refl _ _).alloc _⟩
  ·have hc:=zCb sat.hp.pl v
   simp only[execOp,ho,Instr.box,newVar,newRow,Sem.run_bind,Sem.run_pure,run_newObj,Result.andThen_ok,x3,hc,a5,SV.val,zi,gv]
   rfl
  ·intro h hh
   rw[zs _ _ _ (by omega)];exact a3 h hh
  ·show SV.lt _ (SV.ptr _ _)
   simp[SV.lt]
  ·exact⟨w.heap.size,0,by rw[zi];rfl⟩
  ·show S.n≤_+1
   omega
 ·cases hR
theorem zHq{ts:List PTy}(β:Nat→GV)(h:∀t∈ts,t.leaves=[t])(hp:∀t∈ts,∀f l,t≠.fn f l):SV.vals β (ts.map zDs)=ts.map zCZ:=by
 rw[SV.vals_map,List.map_map]
 apply List.map_congr_left
 intro t ht
 cases t<;>first | rfl | exact absurd rfl (hp _ ht _ _)
theorem zJs(n:Nat)(ts:List PTy):SV.lts n (ts.map zDs):=by
 rw[SV.lts_iff];intro x hx;simp at hx;obtain⟨t,_,rfl⟩:=hx;cases t<;>trivial
theorem zJr(β:Nat→GV)(ts:List PTy):SV.oks β (ts.map zDs):=by
 rw[SV.oks_iff];intro x hx;simp at hx;obtain⟨t,_,rfl⟩:=hx
 cases t with
 | int k=>cases k<;>(show inR _ 0;decide)
 | str=>exact Nat.zero_le _
 | _=>trivial
theorem zDv{t:TypeId}{ti:TI}(h:yX P t ti)(w:World):∃z,(zeroValue t).run P w=.ok z w∧z.cells=(ti.leaves.map zCZ).toArray:=by
 obtain⟨i,hi,_,_,z,hz,hc⟩:=h.info
 exact⟨z,by simp[zeroValue,typeInfo,hi,hz],hc⟩
theorem zPY{t:TypeId}(hT:zAQ P E)(ho:o.op=.alloc t)(hR:za E S true o=some R)(sat:Sat N w0 X F S β ϕ a w)(hob:R.ob):Snd P w0 X F S β ϕ o a w R:=by
 unfold za at hR
 rw[ho] at hR
 simp only at hR
 split at hR
 ·rename_i ti hti
  split at hR
  ·cases hR
  ·cases hR
   rw[zFR] at hob ⊢
   obtain⟨β',ϕ',a1,a2,a3,a4,a5,a6,a7,a8,a9,a10⟩:=zBK ti.leaves (ti.leaves.map zDs) S.n S.A β ϕ sat.hp sat.hb (zJs _ _) (zJr _ _)
   obtain⟨b1,b2⟩:=zIg a1 a2 sat.fr t _ a6 a7
   refine⟨trivial,_,_,_,_,.inl ?_,⟨fun _=>rfl,?_,b1,b2,?_,?_,?_,sat.fr.alloc _⟩,fun h=>by simp[zAJ,zAn,ho] at h,fun _=>(Fr.refl _ _).alloc _⟩
   ·obtain⟨z,hz,hc⟩:=zDv (hT _ _ hti) w
    have hz2:SV.vals β' (zAf S.n ti.leaves (ti.leaves.map zDs)).1=ti.leaves.map zCZ:=by
     rw[a5];exact zHq β (hT _ _ hti).lf (hT _ _ hti).nf
    simp only[execOp,ho,Instr.alloc,newVar,newRow,Sem.run_bind,Sem.run_pure,run_newObj,Result.andThen_ok,hz,hc,hz2,SV.val,zi,gv]
    rfl
   ·intro h hh
    rw[zs _ _ _ (by omega)];exact a3 h hh
   ·show SV.lt _ (SV.ptr _ _)
    simp[SV.lt]
   ·exact⟨w.heap.size,0,by rw[zi];rfl⟩
   ·show S.n≤_+1
    omega
 ·cases hR
theorem zHE(β:Nat→GV)(xs:List SV)(i:Nat):(SV.vals β xs)[i]?=(xs[i]?).map (SV.val β):=by
 rw[SV.vals_map,List.getElem?_map]
theorem zAc(b off n:Nat):(⟨b,off,none⟩:Addr).add n=⟨b,off+n,none⟩:=by
 unfold Addr.add;split<;>simp_all
theorem yA(b off n:Nat)(c:Array Value)(t:TypeId)(fr:Nat × Nat)(h:w.heap[b]?=some (.cells c t fr))(hn:off+n≤c.size) :
  (loadCells ⟨b,off,none⟩ n).run P w=.ok ((c.toList.drop off).take n).toArray w:=by
 have hl:((c.toList.drop off).take n).length=n:=by simp;omega
 have:=run_loadCells_list (P:=P) w ⟨b,off,none⟩ ((c.toList.drop off).take n) (fun j v hj=>by
  rw[zAc,cell_of_row w b _ c t fr h]
  rw[List.getElem?_take] at hj
  split at hj
  ·simpa using hj
  ·cases hj)
 rwa[hl] at this
theorem zKD(l m r:List Value){off n:Nat}(h:off+n≤m.length):((l++m++r).drop (l.length+off)).take n=(m.drop off).take n:=by
 rw[List.append_assoc,←List.drop_drop,List.drop_left,List.drop_append_of_le_length (by omega),List.take_append_of_le_length (by simp;omega)]
theorem zLp{t:TypeId}{x:Operand}{g':Bool}{h off:Nat}{ti:TI}{ow:Bool}{bt:Nat}{cs:List SV}(hT:zAQ P E)(ho:o.op=.load t x)(hx:S.ev x=some (g',.ptr h off))(hti:lk E.ty t=some ti)
  (hl:lk S.A h=some (.box ow bt cs)) (hlen:off+ti.sz≤cs.length) (sat:Sat N w0 X F S β ϕ a w) (hg:g'=true) :
  (ti.agg=true→(execOp a.eval o).run P w=.ok (.value (SV.val β (.agg ((cs.drop off).take ti.sz)))) w) ∧
  (ti.agg=false→∀v,cs[off]?=some v→(execOp a.eval o).run P w=.ok (.value (SV.val β v)) w):=by
 obtain⟨x1,x2⟩:=zD hx sat
 replace x1:=x1 hg
 obtain⟨x3,b,oo,hb⟩:=x2 hg
 obtain⟨b',bt',hb',hϕ,hold⟩:=sat.hp.sat _ _ hl
 rw[hb] at hb'
 simp only[Value.pointer.injEq,Option.some.injEq,Addr.mk.injEq,and_true] at hb'
 obtain⟨rfl,rfl⟩:=hb'
 simp only[SV.val,hb] at x3
 have hag:=zBz (hT _ _ hti)
 have hsz:=yZ (hT _ _ hti)
 have hcl:(SV.vals β cs).length=cs.length:=by simp[SV.vals_map]
 refine⟨fun hA=>?_,fun hA v hv=>?_⟩
 ·have hlc:=yA (P:=P) b ((β h).pre.length+off) ti.sz _ bt' (0,0) hold (by simp[hcl];omega)
  rw[List.toList_toArray,zKD _ _ _ (by rw[hcl];exact hlen)] at hlc
  simp only[execOp,ho,Instr.loadAt,Instr.sureAddr,loadVar,Sem.run_bind,Sem.run_pure,Result.andThen_ok,x3,hag,hsz,hA,if_true,hlc,SV.val]
  simp[SV.vals_map]
 ·have hc:=cell_of_row w b ((β h).pre.length+off) _ bt' (0,0) hold
  have hv2:((β h).pre++SV.vals β cs++(β h).post).toArray[(β h).pre.length+off]?=some (SV.val β v):=by
   have hlt:off < cs.length:=(List.getElem?_eq_some_iff.1 hv).1
   simp only[List.getElem?_toArray]
   rw[List.append_assoc,List.getElem?_append_right (by omega),Nat.add_sub_cancel_left,List.getElem?_append_left (by rw[hcl];exact hlt),zHE,hv];rfl
  rw[hv2] at hc
  simp only[execOp,ho,Instr.loadAt,Instr.sureAddr,loadVar,Sem.run_bind,Sem.run_pure,Result.andThen_ok,x3,hag,hA,Bool.false_eq_true,if_false,run_load,hc]
end
end
end Go.Proofs.YtdmbfkooebldcaaGreatDoor
