/-
  Part 6: contracts of functions, and the laws by which they are proved.
  Conditions: none.
-/
import Derived.Test.YtdmbfkooebldcaaGreatDoorW5
set_option linter.unusedVariables false
set_option linter.unusedSimpArgs false
set_option linter.unusedSectionVars false
set_option maxRecDepth 100000
namespace Go.Proofs.YtdmbfkooebldcaaGreatDoor
section
variable [zZ]
def inB(n lo hi:Int):Bool:=decide (n ≥ lo)&&decide (n≤hi)
def zJ:zS:=⟨[(.rd,.int .i64),(.rd,.int .i64),(.rd,.int .i64)],[.bool],true,fun _=>True,fun ps=>[.bool (inB (nth ps 0).I (nth ps 1).I (nth ps 2).I)],fun _=>[]⟩
theorem zEA:yQ Tryz.prog 22 zJ:=by
 refine zf [0,1,2,6] [.tmp 6] (zI (zF [])) zc Tryz.func22 rfl (by decide) rfl (by decide) rfl ?_
 intro ps hT hpre W hW
 simp only[zJ,TyA,Ty,Tys] at hT hpre
 obtain⟨_,_,rfl,⟨a,rfl,ha⟩,_,_,rfl,⟨b,rfl,hb⟩,_,_,rfl,⟨c,rfl,hc⟩,rfl⟩:=hT
 refine hW.vc [] _ _ ?_
 simp[-List.getD_eq_getElem?_getD,zJ,inB]
 try rfl
def zb:zS:=zJ
theorem zAU:yQ Tryz.prog 24 zb:=by
 refine zf [0,1,2,6] [.tmp 6] (zI (zF [])) zc Tryz.func24 rfl (by decide) rfl (by decide) rfl ?_
 intro ps hT hpre W hW
 simp only[zb,TyA,Ty,Tys] at hT hpre
 simp only[zJ,TyA,Ty] at hT
 obtain⟨_,_,rfl,⟨a,rfl,ha⟩,_,_,rfl,⟨b,rfl,hb⟩,_,_,rfl,⟨c,rfl,hc⟩,rfl⟩:=hT
 refine hW.vc [] _ _ ?_
 simp[-List.getD_eq_getElem?_getD,zb,zJ,zJ,inB]
 try rfl
def zAP(w h:Int):Bool:=inB w 2 24&&inB h 2 10
def yP:zS:=⟨[(.rd,.int .i64),(.rd,.int .i64)],[.bool],true,fun _=>True,fun ps=>[.bool (zAP (nth ps 0).I (nth ps 1).I)],fun _=>[]⟩
theorem zFJ:yQ Tryz.prog 19 yP:=by
 refine zf [0,1,4] [.tmp 4] (zA (cs:=[]) zEA (zI (zF []))) zc Tryz.func19 rfl (by decide) rfl (by decide) rfl ?_
 intro ps hT hpre W hW
 simp only[yP,TyA,Ty,Tys] at hT hpre
 obtain⟨_,_,rfl,⟨a,rfl,ha⟩,_,_,rfl,⟨b,rfl,hb⟩,rfl⟩:=hT
 refine hW.vc [] _ _ ?_
 simp[-List.getD_eq_getElem?_getD,yP,zJ,zAP]
def zBb:zS:=yP
theorem zIR:yQ Tryz.prog 25 zBb:=by
 refine zf [0,1,4] [.tmp 4] (zA (cs:=[]) zAU (zI (zF []))) zc Tryz.func25 rfl (by decide) rfl (by decide) rfl ?_
 intro ps hT hpre W hW
 simp only[zBb,TyA,Ty,Tys] at hT hpre
 simp only[yP,TyA,Ty] at hT
 obtain⟨_,_,rfl,⟨a,rfl,ha⟩,_,_,rfl,⟨b,rfl,hb⟩,rfl⟩:=hT
 refine hW.vc [] _ _ ?_
 simp[-List.getD_eq_getElem?_getD,zBb,zb,yP,zJ,zJ,yP,zAP]
end
section
variable [zZ]
theorem zDp{n a b:Int}:inB n a b=true↔a≤n∧n≤b:=by simp[inB]
structure PR where
 st:Int
 args:List PV
 priv:Bool
 txt:List UInt8
 utf:List UInt8
def PR.pv(p:PR):PV:=.agg [.int .i64 p.st,.list p.args,.bool p.priv,.str p.txt,.str p.utf]
def PR.rv(p:PR)(out:List PV):PV:=.agg [.int .i64 p.st,.list p.args,.bool p.priv,.str p.txt,.str p.utf,.list out]
def zCR(v:List PV):PR:=⟨(nth v 0).I,(nth v 1).L,(nth v 2).B,(nth v 3).S,(nth v 4).S⟩
def PR.g:PR:=⟨0,[],false,[],[]⟩
def acV(k n:Int)(priv:Bool)(args:List PV)(t:List UInt8):PV:=.agg [.int .i64 k,.int .i64 n,.bool priv,.list args,.str t]
def zJe(b:Int):Bool:=b == 7 || b == 8 || b == 9 || b == 10 || b == 13
def zSe(b:Int):Bool:=b == 55 || b == 56 || b == 68 || b == 69 || b == 77 || b == 99
def zNj(b:Int):Int:=if b < 128 then 1 else if inB b 194 223 then 2 else if inB b 224 239 then 3 else if inB b 240 244 then 4 else 0
def zDI:List UInt8→Int
 | []=>0
 | h :: _=>zNj h.toNat
def loF(h:Int)(i:Nat):Int:=if i=1 then (if h=224 then 160 else if h=240 then 144 else 128) else 128
def hiF(h:Int)(i:Nat):Int:=if i=1 then (if h=237 then 159 else if h=244 then 143 else 191) else 191
def zHd(h:Int)(i:Nat):List UInt8→Bool
 | []=>true
 | b :: r=>inB b.toNat (loF h i) (hiF h i)&&zHd h (i+1) r
def zE7:List UInt8→Bool
 | []=>true
 | h :: r=>zHd h.toNat 1 r
def zBj(n:Int):List UInt8→Int
 | []=>n
 | b :: r=>zBj (n*64+b.toNat - 128) r
def zBr:List UInt8→Int
 | []=>0
 | h :: r=>zBj ((h.toNat:Int) - (if r.length=1 then 192 else if r.length=2 then 224 else if r.length=3 then 240 else 0)) r
def u8(b:Int):UInt8:=UInt8.ofNat (IntKind.u8.wrap b).toNat
def zBT(p:PR)(b:Int):PR × List PV:=
 if b=27 then ({ p with st:=1 },[]) else if zJe b then (p,[acV 2 b false [] []]) else if inB b 32 126 then (p,[acV 1 b false [] []])
 else if b < 128 then (p,[]) else if 1 < zNj b then ({ p with st:=6,utf:=[u8 b] },[]) else (p,[acV 1 65533 false [] []])
def zBZ(p:PR)(b:Int):PR × List PV:=
 if b=91 then ({ p with st:=2,args:=[.int .i64 (-1)] },[]) else if b=93 then ({ p with st:=4 },[]) else if b=27 then (p,[]) else if zSe b then (PR.g,[acV 3 b false [] []]) else (PR.g,[])
def zPN(p:PR)(b:Int):PR × List PV:=
 if zE7 (p.utf++[u8 b])=false then ((zBT PR.g b).1,acV 1 65533 false [] [] :: (zBT PR.g b).2)
 else if ((p.utf++[u8 b]).length:Int) < zDI (p.utf++[u8 b]) then ({ p with utf:=p.utf++[u8 b] },[])
 else (PR.g,[acV 1 (zBr (p.utf++[u8 b])) false [] []])
def zRn(a b:Int):Int:=if (if 0 < a then a else 0)*10+b - 48 < 9999 then (if 0 < a then a else 0)*10+b - 48 else 9999
def zJf(p:PR)(b:Int):PR × List PV:=
 if b=27 then ({ PR.g with st:=1 },[]) else if zJe b then (p,[acV 2 b false [] []])
 else if inB b 48 57 then ({ p with args:=p.args.set (p.args.length - 1) (.int .i64 (zRn (nth p.args (p.args.length - 1)).I b)) },[])
 else if b=59∧p.args.length < 8 then ({ p with args:=p.args++[.int .i64 (-1)] },[])
 else if b=63∧p.args.length=1∧(nth p.args 0).I < 0∧p.priv=false then ({ p with priv:=true },[])
 else if inB b 64 126 then (PR.g,[acV 4 b p.priv p.args []]) else ({ PR.g with st:=3 },[])
def zPS(p:PR)(b:Int):PR × List PV:=if b=27 then ({ p with st:=1 },[]) else if inB b 64 126 then (PR.g,[]) else (p,[])
def zO1(p:PR)(b:Int):PR × List PV:=
 if b=7 then (PR.g,[acV 5 0 false [] p.txt]) else if b=27 then ({ p with st:=5 },[]) else if inB b 32 126∧p.txt.length < 40 then ({ p with txt:=p.txt++[u8 b] },[]) else (p,[])
def zEc(p:PR)(b:Int):PR × List PV:=if b=92 then (PR.g,[acV 5 0 false [] p.txt]) else zBZ { PR.g with st:=1 } b
def zDt(p:PR)(b:Int):PR × List PV:=
 if p.st=1 then zBZ p b else if p.st=2 then zJf p b else if p.st=3 then zPS p b else if p.st=4 then zO1 p b else if p.st=5 then zEc p b else if p.st=6 then zPN p b else zBT p b
def zAg(p:PR):List UInt8→List PV→PR × List PV
 | [],acc=>(p,acc)
 | b :: r,acc=>zAg (zDt p b.toNat).1 r (acc++(zDt p b.toNat).2)
structure zDr (p:PR):Prop where
 s:p.st=2→p.args≠[]
 a:∀e∈p.args,∃n,e=.int .i64 n∧-1≤n∧n≤9999
 l:p.args.length≤8
 u:p.st=6→zE7 p.utf=true∧(p.utf.length:Int) < zDI p.utf∧p.utf≠[]
 t:p.txt.length≤40
theorem zDr.g:zDr PR.g:=⟨by decide,by intro e he;simp[PR.g] at he,by decide,by decide,by decide⟩
theorem zDr.st{p:PR}(h:zDr p){s:Int}(hs:s≠2)(h6:s≠6):zDr { p with st:=s }:=⟨fun e=>absurd e hs,h.a,h.l,fun e=>absurd e h6,h.t⟩
theorem zJz{t:List UInt8}:zDI t≤4:=by
 cases t with
 | nil=>simp[zDI]
 | cons a l=>rw[zDI,zNj];repeat' split<;>try omega
theorem zDr.ul{p:PR}(h:zDr p)(h6:p.st=6):p.utf.length≤3:=by
 have:=(h.u h6).2.1
 have:=zJz (t:=p.utf)
 omega
end
section
variable [zZ]
def eqL(f:PV→PV→Bool):List PV→List PV→Bool
 | [],[]=>true
 | a :: l,b :: m=>f a b&&eqL f l m
 | _,_=>false
theorem zJZ{f:PV→PV→Bool}:∀{a b:List PV},a.length≠b.length→eqL f a b=false
 | [],[],h=>absurd rfl h
 | [],_ :: _,_=>rfl
 | _ :: _,[],_=>rfl
 | x :: a,y :: b,h=>by simp only[eqL,zJZ (a:=a) (b:=b) (by simpa using h),Bool.and_false]
def yo:zS:=⟨[(.rd,.list .str),(.rd,.list .str)],[.bool],true,fun _=>True,fun ps=>[.bool (eqL (fun x y=>x.S == y.S) (nth ps 0).L (nth ps 1).L)],fun _=>[]⟩
end
section
variable [zZ]
def zDK(l:List UInt8):Int:=l.foldl (fun n b=>n*256+b.toNat) 0
theorem zIK(l:List UInt8)(b:UInt8):zDK (l++[b])=zDK l*256+b.toNat:=by simp[zDK]
theorem zIJ{l:List UInt8}{i:Nat}(h:i < l.length):zDK (l.take (i+1))=zDK (l.take i)*256+(l.getD i 0).toNat:=by
 rw[List.take_succ_eq_append_getElem h,zIK];simp[h]
theorem zEd:∀(n:Nat) (l:List UInt8),l.length=n→0≤zDK l∧zDK l < 256 ^ n
 | 0,l,h=>by have:=List.eq_nil_of_length_eq_zero h;subst this;simp[zDK]
 | n+1,l,h=>by
  have h0:l≠[]:=by intro e;subst e;simp at h
  have h1:=List.dropLast_concat_getLast h0
  have h2:=zEd n l.dropLast (by simp[h])
  have h3:=(l.getLast h0).toNat_lt
  rw[←h1,zIK,Int.pow_succ]
  omega
theorem zMD{l:List UInt8}(h:l.length≤7)(i:Nat):0≤zDK (l.take i)∧zDK (l.take i) < 72057594037927936:=by
 have h1:=zEd (l.take i).length (l.take i) rfl
 refine⟨h1.1,Int.lt_of_lt_of_le h1.2 ?_⟩
 have h2:(l.take i).length≤7:=by simp;omega
 have h3:(256:Int) ^ (l.take i).length≤256 ^ 7:=by
  have:=Nat.pow_le_pow_right (n:=256) (by decide) h2
  exact_mod_cast this
 exact Int.le_trans h3 (by decide)
theorem zKA{l:List UInt8}(h:l.length≤7){i:Nat}(hi:i < l.length):0≤zDK (l.take i)∧zDK (l.take i) < 281474976710656:=by
 have h1:=zEd (l.take i).length (l.take i) rfl
 refine⟨h1.1,Int.lt_of_lt_of_le h1.2 ?_⟩
 have h2:(l.take i).length≤6:=by simp;omega
 have h3:(256:Int) ^ (l.take i).length≤256 ^ 6:=by
  have:=Nat.pow_le_pow_right (n:=256) (by decide) h2
  exact_mod_cast this
 exact Int.le_trans h3 (by decide)
theorem zPi{m:Int}{b:UInt8}(h0:0≤m)(h1:m < 281474976710656):orI .i64 (m*256) b.toNat=m*256+b.toNat:=by
 obtain⟨k,rfl⟩:=Int.eq_ofNat_of_zero_le h0
 have hb:=b.toNat_lt
 unfold orI
 have hw:IntKind.i64.bits=64:=rfl
 rw[hw]
 have e1:(BitVec.ofInt 64 ((k:Int)*256)).toNat=k*256:=by
  rw[show(k:Int)*256=((k*256:Nat):Int) by simp,BitVec.ofInt_natCast,BitVec.toNat_ofNat]
  exact Nat.mod_eq_of_lt (by omega)
 have e2:(BitVec.ofInt 64 (b.toNat:Int)).toNat=b.toNat:=by
  rw[BitVec.ofInt_natCast,BitVec.toNat_ofNat]
  exact Nat.mod_eq_of_lt (by omega)
 rw[BitVec.toNat_or,e1,e2]
 have e3:k*256 ||| b.toNat=k*256+b.toNat:=by
  have:=Nat.shiftLeft_add_eq_or_of_lt (i:=8) (b:=b.toNat) (by omega) k
  rw[Nat.shiftLeft_eq] at this
  exact this.symm
 rw[e3]
 rw[zC (by omega)]
 simp
theorem zGN(b:UInt8):IntKind.i64.wrap (b.toNat:Int)=b.toNat:=zC (by have:=b.toNat_lt;omega)
def zp:zS:=⟨[(.rd,.str)],[.int .i64],true,fun ps=>(nth ps 0).S.length≤7,fun ps=>[.int .i64 (zDK (nth ps 0).S)],fun _=>[]⟩
theorem zMX:yQ Tryz.prog 46 zp:=by
 refine zf [0,2,3,4] [.tmp 2] (zI (zF [])) zc Tryz.func46 rfl (by decide) rfl (by decide) rfl ?_
 intro ps hT hpre W hW
 simp only[zp,TyA,Ty,Tys] at hT hpre
 obtain⟨_,_,rfl,⟨l,rfl,hl⟩,rfl⟩:=hT
 simp only[zE,zE4] at hpre
 refine hW.vc [] _ _ ?_
 simp[-List.getD_eq_getElem?_getD,zp]
 refine hW.loopS _ _ _ [.sl 3 .dp (.int .i64),.sl 4 .dp (.int .i64)] (fun ys=>∃i:Nat,ys=[.int .i64 (zDK (l.take i)),.int .i64 i]∧i≤l.length) (fun ys=>l.length - (nth ys 1).I.toNat) ?_ ?_
 ·simp[-List.getD_eq_getElem?_getD,zp]
  exact⟨0,⟨by simp[zDK],rfl⟩,by simp⟩
 ·rintro ys ⟨i,rfl,h4⟩
  refine hW.vc [] _ _ ?_
  simp[-List.getD_eq_getElem?_getD,zp]
  refine fun _=>⟨fun h6=>⟨h6,?_⟩,fun h6=>by rw[List.take_of_length_le h6]⟩
  have h7:=zMD hpre i
  have h8:=zKA hpre h6
  have h9:=(l.getD i 0).toNat_lt
  rw[zGN,zC (n:=zDK (l.take i)*256) (by omega),zC (by omega),zC (by omega)]
  exact⟨⟨i+1,⟨(zIJ h6).symm,by omega⟩,by omega⟩,by omega⟩
def zq:zS:=zp
theorem zF4:yQ Tryz.prog 43 zq:=by
 refine zf [0,2,3,4,6,7] [.tmp 2] (zI (zF [])) zc Tryz.func43 rfl (by decide) rfl (by decide) rfl ?_
 intro ps hT hpre W hW
 simp only[zq,TyA,Ty,Tys] at hT hpre
 simp only[zp,TyA,Ty] at hT hpre
 obtain⟨_,_,rfl,⟨l,rfl,hl⟩,rfl⟩:=hT
 simp only[zE,zE4] at hpre
 refine hW.vc [] _ _ ?_
 simp[-List.getD_eq_getElem?_getD,zq,zp,zp]
 intro h0
 refine hW.loopS _ _ _ [.sl 3 .dp (.int .i64),.sl 7 .dp (.int .i64)] (fun ys=>∃i:Nat,ys=[.int .i64 (zDK (l.take i)),.int .i64 i]∧i≤l.length) (fun ys=>l.length - (nth ys 1).I.toNat) ?_ ?_
 ·simp[-List.getD_eq_getElem?_getD,zq,zp]
  exact⟨0,⟨by simp[zDK],rfl⟩,by simp⟩
 ·rintro ys ⟨i,rfl,h4⟩
  refine hW.vc [] _ _ ?_
  simp[-List.getD_eq_getElem?_getD,zq,zp,zp]
  refine⟨fun h6=>⟨h6,?_⟩,fun h6=>by rw[List.take_of_length_le h6]⟩
  have h7:=zMD hpre i
  have h8:=zKA hpre h6
  have h9:=(l.getD i 0).toNat_lt
  rw[zGN,show shlI IntKind.i64 (zDK (List.take i l)) 8=IntKind.i64.wrap (zDK (l.take i)*256) from rfl,zC (n:=zDK (l.take i)*256) (by omega),zC (by omega),zPi h8.1 h8.2]
  exact⟨⟨i+1,⟨(zIJ h6).symm,by omega⟩,by omega⟩,by omega⟩
def zLs(n:Int):Bool:=inB n 0 1114111&&!inB n 55296 57343
def zAF(n:Int):Bool:=inB n 32 1114111&&(n != 127)&&!inB n 55296 57343
def zN7(r k:Int):Bool:=zLs r&&decide (r ≥ 32)&&(r != 127)&&inB k 0 127
def zCW:zS:=⟨[(.rd,.int .i64)],[.bool],true,fun _=>True,fun ps=>[.bool (zLs (nth ps 0).I)],fun _=>[]⟩
theorem zJL:yQ Tryz.prog 71 zCW:=by
 refine zf [0,2] [.tmp 2] (zA (cs:=[]) zAU (zI (zF []))) zc Tryz.func71 rfl (by decide) rfl (by decide) rfl ?_
 intro ps hT hpre W hW
 simp only[zCW,TyA,Ty,Tys] at hT hpre
 obtain⟨_,_,rfl,⟨a,rfl,ha⟩,rfl⟩:=hT
 refine hW.vc [] _ _ ?_
 simp[-List.getD_eq_getElem?_getD,zCW,zb,zJ,zJ]
 rfl
def zDD:zS:=⟨[(.rd,.int .i64)],[.bool],true,fun _=>True,fun ps=>[.bool (zAF (nth ps 0).I)],fun _=>[]⟩
theorem zNt:yQ Tryz.prog 56 zDD:=by
 refine zf [0,2] [.tmp 2] (zA (cs:=[]) zEA (zI (zF []))) zc Tryz.func56 rfl (by decide) rfl (by decide) rfl ?_
 intro ps hT hpre W hW
 simp only[zDD,TyA,Ty,Tys] at hT hpre
 obtain⟨_,_,rfl,⟨a,rfl,ha⟩,rfl⟩:=hT
 refine hW.vc [] _ _ ?_
 simp[-List.getD_eq_getElem?_getD,zDD,zJ]
 simp only[zAF];congr 2
def zB8:zS:=⟨[(.rd,.agg [.int .i64,.int .i64])],[.bool],true,fun _=>True,fun ps=>[.bool (zN7 (nth (nth ps 0).A 0).I (nth (nth ps 0).A 1).I)],fun _=>[]⟩
theorem zMU:yQ Tryz.prog 57 zB8:=by
 refine zf [0,1,2] [.tmp 2] (zA (cs:=[]) zAU (zA (cs:=[]) zJL (zI (zF [])))) zc Tryz.func57 rfl (by decide) rfl (by decide) rfl ?_
 intro ps hT hpre W hW
 simp only[zB8,TyA,Ty,Tys] at hT hpre
 obtain⟨_,_,rfl,⟨_,rfl,_,_,rfl,⟨a,rfl,ha⟩,_,_,rfl,⟨b,rfl,hb⟩,rfl⟩,rfl⟩:=hT
 refine hW.vc [] _ _ ?_
 simp[-List.getD_eq_getElem?_getD,zB8,zCW,zb,zJ,zJ]
 simp only[zN7];congr 2
def zFj:List UInt8→Bool
 | []=>true
 | a :: b :: c :: d :: l=>zAF (zDK [a,b,c])&&decide (d.toNat≤127)&&zFj l
 | _=>false
def zGV(l:List UInt8)(w:Int):Bool:=decide ((l.length:Int)=4*w)&&zFj l
theorem zB0{r:List UInt8}(h:4≤r.length):zFj r=(zAF (zDK (r.take 3))&&decide ((r.getD 3 0).toNat≤127)&&zFj (r.drop 4)):=by
 match r,h with
 | a :: b :: c :: d :: l,_=>rfl
theorem zQF(n:Int)(d:UInt8):zN7 n d.toNat=(zAF n&&decide (d.toNat≤127)):=by
 rw[Bool.eq_iff_iff]
 simp[zN7,zAF,zLs,inB]
 omega
theorem zPa{l:List UInt8}{n:Nat}(i:Nat):(l.drop n).getD i 0=l.getD (n+i) 0:=by
 simp only[List.getD_eq_getElem?_getD,List.getElem?_drop]
def zCX:zS:=⟨[(.rd,.str),(.rd,.int .i64)],[.bool],true,fun ps=>0≤(nth ps 1).I∧(nth ps 1).I≤1000,fun ps=>[.bool (zGV (nth ps 0).S (nth ps 1).I)],fun _=>[]⟩
theorem zMY:yQ Tryz.prog 39 zCX:=by
 refine zf [0,1,4] [.tmp 4] (zA (cs:=[]) zNt (zA (cs:=[]) zF4 (zI (zF [])))) zc Tryz.func39 rfl (by decide) rfl (by decide) rfl ?_
 intro ps hT hpre W hW
 simp only[zCX,TyA,Ty,Tys] at hT hpre
 obtain⟨_,_,rfl,⟨l,rfl,hl⟩,_,_,rfl,⟨w,rfl,hw⟩,rfl⟩:=hT
 simp only[zE,zG,zE4,yu] at hpre
 refine hW.vc [] _ _ ?_
 simp[-List.getD_eq_getElem?_getD,zCX,zq,zDD,zp]
 intro h1
 rw[zC (by omega)]
 refine⟨fun h=>by simp[zGV,h],fun h=>?_⟩
 refine hW.loopS _ _ _ [.sl 0 .dp .str] (fun ys=>∃r,ys=[.str r]∧(∃k,r.length=4*k)∧r.length≤l.length∧zGV l w=zFj r) (fun ys=>(nth ys 0).S.length) ?_ ?_
 ·simp[-List.getD_eq_getElem?_getD,zCX,zq,zDD,zp]
  exact⟨⟨w.toNat,by omega⟩,by simp[zGV,h]⟩
 ·rintro ys ⟨r,rfl,⟨k,hk⟩,h2,h3⟩
  refine hW.vc [] _ _ ?_
  simp[-List.getD_eq_getElem?_getD,zCX,zq,zDD,zp]
  refine⟨fun h4=>?_,fun h4=>by rw[h3,h4];rfl⟩
  have h5:r.length≠0:=fun e=>h4 (List.eq_nil_of_length_eq_zero e)
  have h6:4≤r.length:=by omega
  rw[zB0 h6] at h3
  refine⟨by omega,by omega,fun h7=>⟨h7,by omega⟩,fun h7=>?_,fun h7 h8=>⟨by omega,⟨⟨k - 1,by omega⟩,by omega,?_⟩,by omega⟩⟩
  ·rw[h3]
   rcases h7 with h7 | h7
   ·simp[h7]
   ·have:¬(r.getD 3 0).toNat≤127:=by omega
    simp only[this,decide_false,Bool.and_false,Bool.false_and]
  ·have:(r.getD 3 0).toNat≤127:=by omega
   rw[h3,h7,List.take_of_length_le (by simp)]
   simp only[this,decide_true,Bool.and_true,Bool.true_and]
def zBo:zS:=⟨[(.rd,.int .i64),(.rd,.str)],[.bool],true,fun ps=>0≤(nth ps 0).I∧(nth ps 0).I≤1000,fun ps=>[.bool (zGV (nth ps 1).S (nth ps 0).I)],fun _=>[]⟩
theorem zNq:yQ Tryz.prog 40 zBo:=by
 refine zf [0,1,4,5] [.tmp 4] (zA (cs:=[]) zMU (zA (cs:=[]) zMX (zI (zF [])))) zc Tryz.func40 rfl (by decide) rfl (by decide) rfl ?_
 intro ps hT hpre W hW
 simp only[zBo,TyA,Ty,Tys] at hT hpre
 obtain⟨_,_,rfl,⟨w,rfl,hw⟩,_,_,rfl,⟨l,rfl,hl⟩,rfl⟩:=hT
 simp only[zE,zG,zE4,yu] at hpre
 refine hW.vc [(6,[],tkN [0,1,2,3,4,5,6,8,9,10,11,12,13] (alS 7 (tkN [14] (alS 15 (tkN [16] .done)))))] _ _ ?_
 simp[-List.getD_eq_getElem?_getD,zBo,zp,zB8]
 intro h1
 rw[zC (by omega)]
 refine⟨fun h=>by simp[zGV,h],fun h=>?_⟩
 refine hW.loopS _ _ _ [.sl 5 .dp (.int .i64)] (fun ys=>∃x:Nat,ys=[.int .i64 x]∧(x:Int)≤w∧zGV l w=zFj (l.drop (4*x))) (fun ys=>(w - (nth ys 0).I).toNat) ?_ ?_
 ·simp[-List.getD_eq_getElem?_getD,zBo,zp,zB8]
  exact⟨0,rfl,by omega,by simp[zGV,h]⟩
 ·rintro ys ⟨x,rfl,h2,h3⟩
  refine hW.vc [(6,[],tkN [0,1,2,3,4,5,6,8,9,10,11,12,13] (alS 7 (tkN [14] (alS 15 (tkN [16] .done)))))] _ _ ?_
  simp[-List.getD_eq_getElem?_getD,zBo,zp,zB8]
  refine⟨fun h4=>⟨by decide +kernel,?_⟩,fun h4=>?_⟩
  ·rw[zC (n:=4*(x:Int)) (by omega),zC (n:=4*(x:Int)+3) (by omega),zGN,zQF]
   have e1:(4*(x:Int)).toNat=4*x:=by omega
   have e2:(4*(x:Int)+3).toNat=4*x+3:=by omega
   have e3:4*x+3 - 4*x=3:=by omega
   rw[e1,e2,e3]
   have h5:4≤(l.drop (4*x)).length:=by simp;omega
   rw[zB0 h5,zPa,List.drop_drop] at h3
   rw[zC (by omega)]
   refine⟨⟨by omega,by omega,by omega⟩,⟨by omega,by omega⟩,by omega,fun h6=>by rw[h3,h6];rfl,fun h6=>⟨⟨x+1,by omega,by omega,?_⟩,by omega⟩⟩
   rw[h3,h6,Bool.true_and,Nat.mul_add]
  ·rw[h3,List.drop_eq_nil_of_le (by omega)];rfl
end
section
variable [zZ]
def zAT(es:List PV)(w h:Int):Bool:=decide ((es.length:Int)=h)&&es.all fun e=>zGV e.S w
def zHc(p:PV→Bool)(i:Nat):List PV→Int
 | []=>-1
 | e :: es=>if p e then (i:Int) else zHc p (i+1) es
theorem zIW(p:PV→Bool):∀(es:List PV) (i:Nat),decide (0≤zHc p i es)=es.any p
 | [],i=>by simp[zHc]
 | e :: es,i=>by
  simp only[zHc,List.any_cons]
  by_cases h:p e=true
  ·simp[h]
  ·simp[h,zIW p es (i+1)]
def wOk(w:Int):Prop:=0≤w∧w≤1000
def zBP:zS:=⟨[(.rd,.str),(.rd,.box [.int .i64])],[.bool],true,fun ps=>wOk (nth (nth ps 1).A 0).I,fun ps=>[.bool (!zGV (nth ps 0).S (nth (nth ps 1).A 0).I)],fun _=>[]⟩
theorem zLA:yQ Tryz.prog 38 zBP:=by
 refine zf [0,1,3] [.tmp 3] (zA (cs:=[]) zMY (zI (zF []))) zc Tryz.func38 rfl (by decide) rfl (by decide) rfl ?_
 intro ps hT hpre W hW
 simp only[zBP,TyA,Ty,Tys] at hT hpre
 obtain⟨_,_,rfl,⟨l,rfl,hl⟩,_,_,rfl,⟨_,rfl,_,_,rfl,⟨w,rfl,hw⟩,rfl⟩,rfl⟩:=hT
 simp only[zE,zG,zE4,yu,zBR] at hpre
 refine hW.vc [] _ _ ?_
 simp[-List.getD_eq_getElem?_getD,zBP,zCX]
 exact hpre
def z7:zS:=⟨[(.rd,.list .str),(.rd,.fn 38 [.box [.int .i64]])],[.int .i64],true,fun ps=>wOk (nth (nth (nth ps 1).A 0).A 0).I,fun ps=>[.int .i64 (zHc (fun e=>!zGV e.S (nth (nth (nth ps 1).A 0).A 0).I) 0 (nth ps 0).L)],fun _=>[]⟩
theorem zDL:yQ Tryz.prog 55 z7:=by
 refine zf [0,1,4,5,7,8] [.tmp 4] (zA (cs:=[]) zLA (zI (zF []))) zc Tryz.func55 rfl (by decide) rfl (by decide) rfl ?_
 intro ps hT hpre W hW
 simp only[z7,TyA,Ty,Tys] at hT hpre
 obtain⟨_,_,rfl,⟨es,rfl,he,hes⟩,_,_,rfl,⟨_,rfl,_,_,rfl,⟨_,rfl,_,_,rfl,⟨w,rfl,hw⟩,rfl⟩,rfl⟩,rfl⟩:=hT
 simp only[zE,zG,zE4,yu,zBR] at hpre
 refine hW.vc [] _ _ ?_
 simp[-List.getD_eq_getElem?_getD,z7,zBP]
 intro h1
 refine hW.loopS _ _ _ [.sl 8 .dp (.int .i64)] (fun ys=>∃i:Nat,ys=[.int .i64 i]∧i≤es.length∧zHc (fun e=>!zGV e.S w) 0 es=zHc (fun e=>!zGV e.S w) i (es.drop i)) (fun ys=>es.length - (nth ys 0).I.toNat) ?_ ?_
 ·simp[-List.getD_eq_getElem?_getD,z7,zBP]
  exact⟨0,rfl,by simp,by simp⟩
 ·rintro ys ⟨i,rfl,h2,h3⟩
  refine hW.vc [] _ _ ?_
  simp[-List.getD_eq_getElem?_getD,z7,zBP]
  refine⟨fun h4=>⟨h4,fun _=>⟨hpre,fun h5=>?_,fun h5=>?_⟩⟩,fun h4=>?_⟩
  ·rw[h3,zBE h4];simp[zHc,h5]
  ·rw[zC (by omega)]
   refine⟨⟨i+1,by omega,by omega,?_⟩,by omega⟩
   rw[h3,zBE h4];simp[zHc,h5]
  ·rw[h3,List.drop_eq_nil_of_le h4];rfl
def yF:zS:=⟨[(.rd,.list .str),(.rd,.fn 38 [.box [.int .i64]])],[.bool],true,fun ps=>wOk (nth (nth (nth ps 1).A 0).A 0).I,fun ps=>[.bool ((nth ps 0).L.any (fun e=>!zGV e.S (nth (nth (nth ps 1).A 0).A 0).I))],fun _=>[]⟩
theorem zCT:yQ Tryz.prog 37 yF:=by
 refine zf [0,1,4] [.tmp 4] (zA (cs:=[38]) zDL (zI (zF []))) zc Tryz.func37 rfl (by decide) rfl (by decide) rfl ?_
 intro ps hT hpre W hW
 simp only[yF,TyA,Ty,Tys] at hT hpre
 obtain⟨_,_,rfl,⟨es,rfl,he,hes⟩,_,_,rfl,⟨_,rfl,_,_,rfl,⟨_,rfl,_,_,rfl,⟨w,rfl,hw⟩,rfl⟩,rfl⟩,rfl⟩:=hT
 simp only[zE,zG,zE4,yu,zBR] at hpre
 refine hW.vc [] _ _ ?_
 simp[-List.getD_eq_getElem?_getD,yF,z7]
 exact⟨hpre,zIW _ _ _⟩
def zCA:zS:=⟨[(.rd,.list .str),(.rd,.int .i64),(.rd,.int .i64)],[.bool],true,fun ps=>wOk (nth ps 1).I,fun ps=>[.bool (zAT (nth ps 0).L (nth ps 1).I (nth ps 2).I)],fun _=>[]⟩
theorem zF5:yQ Tryz.prog 20 zCA:=by
 refine zf [0,1,2,4,6] [.tmp 6] (zA (cs:=[38]) zCT (zI (zF []))) zc Tryz.func20 rfl (by decide) rfl (by decide) rfl ?_
 intro ps hT hpre W hW
 simp only[zCA,TyA,Ty,Tys] at hT hpre
 obtain⟨_,_,rfl,⟨es,rfl,he,hes⟩,_,_,rfl,⟨w,rfl,hw⟩,_,_,rfl,⟨h,rfl,hh⟩,rfl⟩:=hT
 simp only[zE,zG,zE4,yu,zBR] at hpre
 refine hW.vc [] _ _ ?_
 simp[-List.getD_eq_getElem?_getD,zCA,yF]
 refine fun _=>⟨fun _=>hpre,?_⟩
 simp only[zAT,List.not_any_eq_all_not,Bool.not_not]
theorem zLu{es:List PV}{w h:Int}(hl:(es.length:Int)≠h):zAT es w h=false:=by simp[zAT,hl]
def zAY:zS:=⟨[(.rd,.int .i64),(.rd,.int .i64),(.rd,.list .str)],[.bool],true,fun ps=>wOk (nth ps 0).I,fun ps=>[.bool (zAT (nth ps 2).L (nth ps 0).I (nth ps 1).I)],fun _=>[]⟩
theorem zIQ:yQ Tryz.prog 26 zAY:=by
 refine zf [0,1,2,6,7] [.tmp 6] (zA (cs:=[]) zNq (zI (zF []))) zc Tryz.func26 rfl (by decide) rfl (by decide) rfl ?_
 intro ps hT hpre W hW
 simp only[zAY,TyA,Ty,Tys] at hT hpre
 obtain⟨_,_,rfl,⟨w,rfl,hw⟩,_,_,rfl,⟨h,rfl,hh⟩,_,_,rfl,⟨es,rfl,he,hes⟩,rfl⟩:=hT
 simp only[zE,zG,zE4,yu,zBR] at hpre
 refine hW.vc [] _ _ ?_
 simp[-List.getD_eq_getElem?_getD,zAY,zBo]
 refine fun h1=>⟨fun h2=>zLu h2,fun h2=>?_⟩
 refine hW.loopS _ _ _ [.sl 7 .dp (.int .i64)] (fun ys=>∃i:Nat,ys=[.int .i64 i]∧i≤es.length∧zAT es w h=(es.drop i).all fun e=>zGV e.S w) (fun ys=>es.length - (nth ys 0).I.toNat) ?_ ?_
 ·simp[-List.getD_eq_getElem?_getD,zAY,zBo]
  exact⟨0,rfl,by simp,by simp[zAT,h2]⟩
 ·rintro ys ⟨i,rfl,h3,h4⟩
  refine hW.vc [] _ _ ?_
  simp[-List.getD_eq_getElem?_getD,zAY,zBo]
  refine⟨fun h5=>⟨by omega,fun _=>⟨hpre,fun h6=>?_,fun h6=>?_⟩⟩,fun h5=>?_⟩
  ·rw[h4,zBE (by omega)];simp[h6]
  ·rw[zC (by omega)]
   refine⟨⟨i+1,by omega,by omega,?_⟩,by omega⟩
   rw[h4,zBE (by omega)];simp[h6]
  ·rw[h4,List.drop_eq_nil_of_le (by omega)];rfl
def zGd(m:List PV):Bool:=if (nth m 0).I=-1 then decide ((nth m 1).I=0)&&decide ((nth m 2).I=0)&&decide ((nth m 3).L.length=0) else inB (nth m 0).I 0 60&&zAP (nth m 1).I (nth m 2).I&&zAT (nth m 3).L (nth m 1).I (nth m 2).I
theorem zCw{w h:Int}(hs:zAP w h=true):wOk w:=by
 simp[zAP,inB] at hs;unfold wOk;omega
theorem zMI{n w h:Int}{es:List PV}:(n=-1→(w=0→h=0→es.length≤140737488355328)→(decide (w=0)&&decide (h=0)&&(es.length:Int) == 0)=zGd [PV.int .i64 n,PV.int .i64 w,PV.int .i64 h,PV.list es]) ∧
  (¬n=-1→(inB n 0 60=true→zAP w h=true→wOk w)∧(inB n 0 60&&zAP w h&&zAT es w h)=zGd [PV.int .i64 n,PV.int .i64 w,PV.int .i64 h,PV.list es]):=by
 refine⟨fun h1 _=>?_,fun h1=>⟨fun _ h2=>zCw h2,?_⟩⟩
 ·simp only[zGd,zE,zG,yu,zBf,h1,if_true]
  congr 1
  rw[Bool.eq_iff_iff];simp
 ·simp[zGd,zE,zG,yu,zBf,h1]
def yt:zS:=⟨[(.rd,.int .i64)],[.bool],true,fun _=>True,fun ps=>[.bool (inB (nth ps 0).I 0 60)],fun _=>[]⟩
theorem zC2:yQ Tryz.prog 18 yt:=by
 refine zf [0,2] [.tmp 2] (zA (cs:=[]) zEA (zI (zF []))) zc Tryz.func18 rfl (by decide) rfl (by decide) rfl ?_
 intro ps hT hpre W hW
 simp only[yt,TyA,Ty,Tys] at hT hpre
 obtain⟨_,_,rfl,⟨a,rfl,ha⟩,rfl⟩:=hT
 refine hW.vc [] _ _ ?_
 simp[-List.getD_eq_getElem?_getD,yt,zJ]
def zm:zS:=⟨[(.rd,.agg [.int .i64,.int .i64,.int .i64,.list .str])],[.bool],true,fun _=>True,fun ps=>[.bool (zGd (nth ps 0).A)],fun _=>[]⟩
theorem zEf:yQ Tryz.prog 28 zm:=by
 refine zf [0,1,2] [.tmp 2] (zA (cs:=[]) zF5 (zA (cs:=[]) zFJ (zA (cs:=[]) zC2 (zI (zF []))))) zc Tryz.func28 rfl (by decide) rfl (by decide) rfl ?_
 intro ps hT hpre W hW
 simp only[zm,TyA,Ty,Tys] at hT hpre
 obtain⟨_,_,rfl,⟨_,rfl,_,_,rfl,⟨n,rfl,hn⟩,_,_,rfl,⟨w,rfl,hw⟩,_,_,rfl,⟨h,rfl,hh⟩,_,_,rfl,⟨es,rfl,he,hes⟩,rfl⟩,rfl⟩:=hT
 refine hW.vc [] _ _ ?_
 simp[-List.getD_eq_getElem?_getD,zm,yt,yP,zCA]
 exact zMI
def zDF:zS:=zm
theorem zLC:yQ Tryz.prog 13 zDF:=by
 refine zf [0,1,2] [.tmp 2] (zA (cs:=[]) zEf (zI (zF []))) zc Tryz.func13 rfl (by decide) rfl (by decide) rfl ?_
 intro ps hT hpre W hW
 simp only[zDF,TyA,Ty,Tys] at hT hpre
 simp only[zm,TyA,Ty,Tys] at hT
 obtain⟨_,_,rfl,⟨_,rfl,_,_,rfl,⟨n,rfl,hn⟩,_,_,rfl,⟨w,rfl,hw⟩,_,_,rfl,⟨h,rfl,hh⟩,_,_,rfl,⟨es,rfl,he,hes⟩,rfl⟩,rfl⟩:=hT
 refine hW.vc [] _ _ ?_
 simp[-List.getD_eq_getElem?_getD,zDF,zm]
def zAp:zS:=zm
theorem zJJ:yQ Tryz.prog 31 zAp:=by
 refine zf [0,1,2] [.tmp 2] (zA (cs:=[]) zIQ (zA (cs:=[]) zIR (zA (cs:=[]) zAU (zI (zF []))))) zc Tryz.func31 rfl (by decide) rfl (by decide) rfl ?_
 intro ps hT hpre W hW
 simp only[zAp,TyA,Ty,Tys] at hT hpre
 simp only[zm,TyA,Ty,Tys] at hT
 obtain⟨_,_,rfl,⟨_,rfl,_,_,rfl,⟨n,rfl,hn⟩,_,_,rfl,⟨w,rfl,hw⟩,_,_,rfl,⟨h,rfl,hh⟩,_,_,rfl,⟨es,rfl,he,hes⟩,rfl⟩,rfl⟩:=hT
 refine hW.vc [] _ _ ?_
 simp[-List.getD_eq_getElem?_getD,zAp,zb,zBb,zAY,zm,zJ,yP]
 exact zMI
end
section
variable [zZ]
theorem zHg{f:PV→PV→Bool}(hf:∀x,f x x=true):∀{es:List PV},eqL f es es=true
 | []=>rfl
 | e :: es=>by simp[eqL,hf,zHg hf (es:=es)]
end
section
variable [zZ]
def zKU(a b:List PV):Bool:=(nth a 0).I == (nth b 0).I&&(nth a 1).S == (nth b 1).S
def zEG(a b:PV):Bool:=zKU a.A b.A
theorem zJY(a:PV):zEG a a=true:=by simp[zEG,zKU]
def zPz(a b:List PV):Bool:=(nth a 0).I == (nth b 0).I&&(nth a 1).I == (nth b 1).I&&(nth a 2).B == (nth b 2).B&&(nth a 3).I == (nth b 3).I&&(nth a 4).I == (nth b 4).I&&eqL zEG (nth a 5).L (nth b 5).L
def upB(w h:Int)(p:Int):List PV→Bool
 | []=>true
 | e :: es=>inB (nth e.A 0).I 0 (h - 1)&&decide (p < (nth e.A 0).I)&&zGV (nth e.A 1).S w&&upB w h (nth e.A 0).I es
def leB(a b:Int):Bool:=decide (a≤b)
def zOt(c a b:Bool):Bool:=(c&&a) || (!c&&b)
def zCa(v:List PV):Bool:=
 inB (nth v 0).I 0 60&&zAP (nth v 3).I (nth v 4).I&&leB (nth v 5).L.length (nth v 4).I&&upB (nth v 3).I (nth v 4).I (-1) (nth v 5).L &&
  zOt (nth v 2).B ((nth v 1).I == 0&&((nth v 5).L.length:Int) == (nth v 4).I) (inB (nth v 1).I 0 ((nth v 0).I - 1))
def pvY(es:List PV)(i:Nat):Int:=if i=0 then -1 else (nth (nth es (i - 1)).A 0).I
theorem zPL{n f w h:Int}{u:Bool}{es:List PV}(h2:(inB n 0 60=false∨zAP w h=false)∨h < es.length):zCa [.int .i64 n,.int .i64 f,.bool u,.int .i64 w,.int .i64 h,.list es]=false:=by
 simp only[zCa,zE,zG,yu,zBf]
 rcases h2 with (h2 | h2) | h2
 ·simp[h2]
 ·simp[h2]
 ·have:¬(es.length:Int)≤h:=by omega
  simp[this,leB]
theorem zPM{n f w h:Int}{u:Bool}{es:List PV}(h2:inB n 0 60=true)(h3:zAP w h=true)(h4:(es.length:Int)≤h):(2≤w∧w≤24∧2≤h∧h≤10) ∧
  zCa [.int .i64 n,.int .i64 f,.bool u,.int .i64 w,.int .i64 h,.list es]=(upB w h (-1) es&&zOt u (f == 0&&(es.length:Int) == h) (inB f 0 (n - 1))):=by
 refine⟨by simp[zAP,inB] at h3;omega,?_⟩
 simp[zCa,zE,zG,yu,zBf,zND,h2,h3,h4,leB]
def zAZ:zS:=⟨[(.rd,.agg [.int .i64,.int .i64,.bool,.int .i64,.int .i64,.list (.agg [.int .i64,.str])])],[.bool],true,fun _=>True,fun ps=>[.bool (zCa (nth ps 0).A)],fun _=>[]⟩
theorem zKL:yQ Tryz.prog 27 zAZ:=by
 refine zf [0,1,2,3,4,26,27,28] [.tmp 2] (zA (cs:=[]) zMY (zA (cs:=[]) zEA (zA (cs:=[]) zFJ (zA (cs:=[]) zC2 (zI (zF [])))))) zc Tryz.func27 rfl (by decide) rfl (by decide) rfl ?_
 intro ps hT hpre W hW
 simp only[zAZ,TyA,Ty,Tys] at hT hpre
 obtain⟨_,_,rfl,⟨_,rfl,_,_,rfl,⟨n,rfl,hn⟩,_,_,rfl,⟨f,rfl,hf⟩,_,_,rfl,⟨u,rfl⟩,_,_,rfl,⟨w,rfl,hw⟩,_,_,rfl,⟨h,rfl,hh⟩,_,_,rfl,⟨es,rfl,hes,tes⟩,rfl⟩,rfl⟩:=hT
 refine hW.vc [(6,[],tkN [0,1,2,3,4] (alS 5 (tkN [6,7,8,9,10,11,12,13,14,15,16,17,18,19,20,21,22,23,24,25,26,27] (alS 28 (tkN [29,30] .done)))))] _ _ ?_
 simp[-List.getD_eq_getElem?_getD,zAZ,yt,yP,zJ,zCX]
 intro h1
 refine⟨zPL,fun h2 h3 h4 h5=>?_⟩
 obtain⟨h6,h7⟩:=zPM (u:=u) (f:=f) h2 h3 h4
 refine hW.loopS _ _ _ [.sl 28 .dp (.int .i64)] (fun ys=>∃i:Nat,ys=[.int .i64 i]∧i≤es.length∧upB w h (-1) es=upB w h (pvY es i) (es.drop i)) (fun ys=>es.length - (nth ys 0).I.toNat) ?_ ?_
 ·simp[-List.getD_eq_getElem?_getD,zAZ,yt,yP,zJ,zCX]
  exact⟨0,rfl,by simp,by simp[pvY]⟩
 ·rintro ys ⟨i,rfl,g1,g2⟩
  refine hW.vc [(6,[],tkN [0,1,2,3,4] (alS 5 (tkN [6,7,8,9,10,11,12,13,14,15,16,17,18,19,20,21,22,23,24,25,26,27] (alS 28 (tkN [29,30] .done)))))] _ _ ?_
  simp[-List.getD_eq_getElem?_getD,zAZ,yt,yP,zJ,zCX]
  have k1:IntKind.i64.wrap (h - 1)=h - 1:=zC (by omega)
  simp only[k1]
  have k2:0 < i→(IntKind.i64.wrap ((i:Int) - 1)).toNat=i - 1:=fun h=>by rw[zC (by omega)];omega
  have k3:0 < i→IntKind.i64.wrap ((i:Int) - 1)=i - 1:=fun h=>zC (by omega)
  refine⟨fun g3=>⟨g3,fun _ _ _=>⟨by decide +kernel,fun g4 g5=>⟨⟨g4,g5⟩,by rw[k3 g5];omega⟩,fun g4 g5=>⟨⟨g4,g5⟩,by rw[k2 g5];omega⟩,fun _=>⟨fun g4=>⟨g4,fun g5=>⟨g4,g5⟩⟩,fun _ _=>by omega,?_⟩⟩⟩,?_⟩
  ·rw[zBE g3,upB] at g2
   have k4:0 < i→pvY es i=(nth (nth es (i - 1)).A 0).I:=fun h=>by rw[pvY,if_neg (by omega)]
   refine⟨fun g4=>?_,fun g4 g5 g6=>?_⟩
   ·rw[h7,g2]
    rcases g4 with (g4 | ⟨g4,g5⟩) | g4
    ·simp[g4]
    ·rw[k2 g4] at g5
     have:¬pvY es i < (nth (nth es i).A 0).I:=by rw[k4 g4];omega
     simp[this]
    ·simp[g4]
   ·rw[zC (by omega)]
    have k5:pvY es i < (nth (nth es i).A 0).I:=by
     by_cases h0:0 < i
     ·have:=g5 h0
      rw[k2 h0] at this
      rw[k4 h0];exact this
     ·have:pvY es i=-1:=by rw[pvY,if_pos (by omega)]
      rw[this]
      simp[inB] at g4;omega
    refine⟨⟨i+1,by omega,by omega,?_⟩,by omega⟩
    have k6:pvY es (i+1)=(nth (nth es i).A 0).I:=by simp[pvY]
    rw[g2,g4,g6,k6]
    simp[k5]
  ·intro g3
   rw[List.drop_eq_nil_of_le g3,upB] at g2
   have k5:IntKind.i64.wrap (n - 1)=n - 1:=zC (by simp[inB] at h2;omega)
   rw[h7,g2,k5]
   refine⟨fun g4 _=>?_,fun g4=>?_⟩
   ·subst g4
    rw[Bool.eq_iff_iff];simp[zOt]
   ·subst g4
    simp[zOt]
def zCs:zS:=zAZ
theorem zMZ:yQ Tryz.prog 10 zCs:=by
 refine zf [0,1,2] [.tmp 2] (zA (cs:=[]) zKL (zI (zF []))) zc Tryz.func10 rfl (by decide) rfl (by decide) rfl ?_
 intro ps hT hpre W hW
 simp only[zCs,TyA,Ty,Tys] at hT hpre
 simp only[zAZ,TyA,Ty,Tys] at hT
 obtain⟨_,_,rfl,⟨_,rfl,_,_,rfl,⟨n,rfl,hn⟩,_,_,rfl,⟨f,rfl,hf⟩,_,_,rfl,⟨u,rfl⟩,_,_,rfl,⟨w,rfl,hw⟩,_,_,rfl,⟨h,rfl,hh⟩,_,_,rfl,⟨es,rfl,hes,tes⟩,rfl⟩,rfl⟩:=hT
 refine hW.vc [] _ _ ?_
 simp[-List.getD_eq_getElem?_getD,zCs,zAZ]
end
section
variable [zZ]
theorem zJX(es:List PV):eqL zEG es es=true:=zHg zJY
theorem zMm(v:List PV):zPz v v=true:=by simp[zPz,zJX]
def yz(i:Nat):List PV→List PV
 | []=>[]
 | e :: es=>.agg [.int .i64 i,.str e.S] :: yz (i+1) es
theorem zC5:∀(es:List PV) (i:Nat),(yz i es).length=es.length
 | [],_=>rfl
 | e :: es,i=>by simp[yz,zC5 es]
theorem zGF(x:PV):∀(es:List PV) (i:Nat),yz i (es++[x])=yz i es++[.agg [.int .i64 (i+es.length:Nat),.str x.S]]
 | [],i=>by simp[yz]
 | e :: es,i=>by simp[yz,zGF x es];omega
def zBN:zS:=⟨[(.rd,.int .i64),(.rd,.int .i64),(.rd,.int .i64),(.rd,.list .str)],[.agg [.int .i64,.int .i64,.bool,.int .i64,.int .i64,.list (.agg [.int .i64,.str])]],true,fun ps=>(nth ps 3).L.length≤1048576,fun ps=>[.agg [.int .i64 (nth ps 0).I,.int .i64 0,.bool true,.int .i64 (nth ps 1).I,.int .i64 (nth ps 2).I,.list (yz 0 (nth ps 3).L)]],fun _=>[]⟩
theorem zK7:yQ Tryz.prog 21 zBN:=by
 refine zf [0,1,2,3,8,9,10,11,16,17,18] [.cell 8 28] (zI (zF [])) zc Tryz.func21 rfl (by decide) rfl (by decide) rfl ?_
 intro ps hT hpre W hW
 simp only[zBN,TyA,Ty,Tys] at hT hpre
 obtain⟨_,_,rfl,⟨n,rfl,hn⟩,_,_,rfl,⟨w,rfl,hw⟩,_,_,rfl,⟨h,rfl,hh⟩,_,_,rfl,⟨es,rfl,hes,tes⟩,rfl⟩:=hT
 simp only[zE,zG,zBf] at hpre
 refine hW.vc [] _ _ ?_
 simp[-List.getD_eq_getElem?_getD,zBN]
 refine fun h1=>hW.loopS _ _ _ [.bx 9 [.int .i64,.int .i64,.bool,.int .i64,.int .i64,.list (.agg [.int .i64,.str])],.sl 18 .dp (.int .i64)] (fun ys=>∃(i:Nat),ys=[.agg [.int .i64 n,.int .i64 0,.bool true,.int .i64 w,.int .i64 h,.list (yz 0 (es.take i))],.int .i64 i]∧i≤es.length) (fun ys=>es.length - (nth ys 1).I.toNat) ?_ ?_
 ·simp[-List.getD_eq_getElem?_getD,zBN]
  exact⟨0,⟨by simp[yz],rfl⟩,by simp⟩
 ·rintro ys ⟨i,rfl,g1⟩
  refine hW.vc [] _ _ ?_
  simp[-List.getD_eq_getElem?_getD,zBN]
  refine⟨fun g2=>⟨g2,fun _=>⟨by rw[zC5,List.length_take];omega,fun _=>⟨⟨i+1,⟨?_,by rw[zC (by omega)];omega⟩,by omega⟩,by rw[zC (by omega)];omega⟩⟩⟩,fun g2=>by rw[List.take_of_length_le g2]⟩
  rw[zBh g2,zGF,List.length_take,Nat.min_eq_left g1,Nat.zero_add]
structure VW where
 n:Int
 f:Int
 u:Bool
 w:Int
 h:Int
 r:List PV
def VW.pv(v:VW):PV:=.agg [.int .i64 v.n,.int .i64 v.f,.bool v.u,.int .i64 v.w,.int .i64 v.h,.list v.r]
def VW.no:VW:=⟨0,0,false,0,0,[]⟩
def zE0(n w h:Int)(es:List PV):VW × Int:=
 if 4096 < (es.length:Int) then (VW.no,2) else if inB n 0 60=false∨zAP w h=false then (VW.no,4) else if zAT es w h=false then (VW.no,1) else (⟨n,0,true,w,h,yz 0 es⟩,0)
theorem zBI{es:List PV}{w h:Int}(hl:zAT es w h=true):(es.length:Int)=h:=by simp[zAT] at hl;exact hl.1
theorem zFv{a b:Bool}(ha:a=true)(hb:b=true):¬(a=false∨b=false):=by subst ha;subst hb;simp
def zBc:zS:=⟨[(.rd,.int .i64),(.rd,.int .i64),(.rd,.int .i64),(.rd,.list .str)],[.agg [.int .i64,.int .i64,.bool,.int .i64,.int .i64,.list (.agg [.int .i64,.str])],.int .i64],true,fun _=>True,
 fun ps=>[(zE0 (nth ps 0).I (nth ps 1).I (nth ps 2).I (nth ps 3).L).1.pv,.int .i64 (zE0 (nth ps 0).I (nth ps 1).I (nth ps 2).I (nth ps 3).L).2],fun _=>[]⟩
theorem zJN:yQ Tryz.prog 6 zBc:=by
 refine zf [0,1,2,3,8,9] [.cell 8 28,.tmp 9] (zA (cs:=[]) zK7 (zA (cs:=[]) zF5 (zA (cs:=[]) zFJ (zA (cs:=[]) zC2 (zI (zF [])))))) zc Tryz.func6 rfl (by decide) rfl (by decide) rfl ?_
 intro ps hT hpre W hW
 simp only[zBc,TyA,Ty,Tys] at hT hpre
 obtain⟨_,_,rfl,⟨n,rfl,hn⟩,_,_,rfl,⟨w,rfl,hw⟩,_,_,rfl,⟨h,rfl,hh⟩,_,_,rfl,⟨es,rfl,hes,tes⟩,rfl⟩:=hT
 refine hW.vc [] _ _ ?_
 simp[-List.getD_eq_getElem?_getD,zBc,yt,yP,zCA,zBN,VW.pv]
 refine fun _=>⟨fun h1=>?_,fun h1=>⟨fun h2=>?_,fun h2 h3=>⟨zCw h3,fun h4=>?_,fun h4=>⟨by omega,?_⟩⟩⟩⟩
 ·rw[zE0,if_pos h1];simp[VW.no]
 ·rw[zE0,if_neg (Int.not_lt.2 h1),if_pos h2];simp[VW.no]
 ·rw[zE0,if_neg (Int.not_lt.2 h1),if_neg (zFv h2 h3),if_pos h4];simp[VW.no]
 ·rw[zE0,if_neg (Int.not_lt.2 h1),if_neg (zFv h2 h3),if_neg (by simp[h4])];simp
end
section
variable [zZ]
theorem zOk{n:Int}(h:0≤n∧n≤255):IntKind.u8.wrap n=n:=by
 simp[IntKind.wrap,IntKind.signed,IntKind.bits];omega
theorem zPj{l:List PV}{i:Nat}{x:PV}(h:i < l.length):nth (l.set i x) i=x:=by simp[nth,h]
end
section
variable [zZ]
theorem zN4(es:List PV):eqL (fun x y=>x.S == y.S) es es=true:=zHg fun _=>by simp
def z9(i:Nat):List PV→List PV→List PV
 | x :: xs,y :: ys=>cond (x.S == y.S) (z9 (i+1) xs ys) (.agg [.int .i64 i,.str y.S] :: z9 (i+1) xs ys)
 | _,_=>[]
theorem zC6:∀(xs ys:List PV) (i:Nat),(z9 i xs ys).length≤ys.length
 | [],ys,i=>by simp[z9]
 | x :: xs,[],i=>by simp[z9]
 | x :: xs,y :: ys,i=>by
  have:=zC6 xs ys (i+1)
  simp only[z9]
  cases x.S == y.S
  ·simp;omega
  ·simp;omega
theorem zDj:∀(xs ys:List PV) (i k:Nat),k < xs.length→k < ys.length→z9 i (xs.take (k+1)) (ys.take (k+1))=z9 i (xs.take k) (ys.take k)++(cond ((nth xs k).S == (nth ys k).S) [] [.agg [.int .i64 (i+k:Nat),.str (nth ys k).S]])
 | [],_,_,_,h,_=>by simp at h
 | _ :: _,[],_,_,_,h=>by simp at h
 | x :: xs,y :: ys,i,0,_,_=>by
  simp only[List.take_succ_cons,List.take_zero,z9,zE,List.nil_append,Nat.add_zero]
 | x :: xs,y :: ys,i,k+1,h1,h2=>by
  have:=zDj xs ys (i+1) k (by simpa using h1) (by simpa using h2)
  simp only[List.take_succ_cons,z9,zG] at this ⊢
  rw[this,show i+1+k=i+(k+1) by omega]
  cases x.S == y.S
  ·rfl
  ·rfl
theorem zIc{xs ys:List PV}{i k:Nat}(h1:k < xs.length)(h2:k < ys.length)(h:(nth xs k).S=(nth ys k).S):z9 i (xs.take (k+1)) (ys.take (k+1))=z9 i (xs.take k) (ys.take k):=by
 rw[zDj _ _ _ _ h1 h2,h,beq_self_eq_true,cond_true,List.append_nil]
theorem zIb{xs ys:List PV}{k:Nat}(h1:k < xs.length)(h2:k < ys.length)(h:¬(nth xs k).S=(nth ys k).S):z9 0 (xs.take (k+1)) (ys.take (k+1))=z9 0 (xs.take k) (ys.take k)++[.agg [.int .i64 k,.str (nth ys k).S]]:=by
 rw[zDj _ _ _ _ h1 h2,beq_false_of_ne h,cond_false,Nat.zero_add]
def zBO:zS:=⟨[(.rd,.int .i64),(.rd,.int .i64),(.rd,.int .i64),(.rd,.int .i64),(.rd,.list .str),(.rd,.list .str)],[.agg [.int .i64,.int .i64,.bool,.int .i64,.int .i64,.list (.agg [.int .i64,.str])]],true,fun ps=>(nth ps 4).L.length=(nth ps 5).L.length∧(nth ps 5).L.length≤1048576,
 fun ps=>[.agg [.int .i64 (nth ps 1).I,.int .i64 (nth ps 0).I,.bool false,.int .i64 (nth ps 2).I,.int .i64 (nth ps 3).I,.list (z9 0 (nth ps 4).L (nth ps 5).L)]],fun _=>[]⟩
theorem zK8:yQ Tryz.prog 23 zBO:=by
 refine zf [0,1,2,3,4,5,12,13,14,15,21,22,23] [.cell 12 28] (zI (zF [])) zc Tryz.func23 rfl (by decide) rfl (by decide) rfl ?_
 intro ps hT hpre W hW
 simp only[zBO,TyA,Ty,Tys] at hT hpre
 obtain⟨_,_,rfl,⟨f,rfl,hf⟩,_,_,rfl,⟨n,rfl,hn⟩,_,_,rfl,⟨w,rfl,hw⟩,_,_,rfl,⟨h,rfl,hh⟩,_,_,rfl,⟨os,rfl,hos,tos⟩,_,_,rfl,⟨es,rfl,hes,tes⟩,rfl⟩:=hT
 simp only[zE,zG,zBf] at hpre
 obtain⟨hp1,hp2⟩:=hpre
 refine hW.vc [] _ _ ?_
 simp[-List.getD_eq_getElem?_getD,zBO]
 refine fun h1=>hW.loopS _ _ _ [.bx 13 [.int .i64,.int .i64,.bool,.int .i64,.int .i64,.list (.agg [.int .i64,.str])],.sl 23 .dp (.int .i64)] (fun ys=>∃(i:Nat),ys=[.agg [.int .i64 n,.int .i64 f,.bool false,.int .i64 w,.int .i64 h,.list (z9 0 (os.take i) (es.take i))],.int .i64 i]∧i≤es.length) (fun ys=>es.length - (nth ys 1).I.toNat) ?_ ?_
 ·simp[-List.getD_eq_getElem?_getD,zBO]
  exact⟨0,⟨by simp[z9],rfl⟩,by simp⟩
 ·rintro ys ⟨i,rfl,g1⟩
  refine hW.vc [] _ _ ?_
  simp[-List.getD_eq_getElem?_getD,zBO]
  have hdl:=zC6 (os.take i) (es.take i) 0
  rw[List.length_take] at hdl
  rw[zC (n:=(i:Int)+1) (by omega)]
  refine⟨fun g2=>⟨g2,fun _=>⟨by omega,fun _=>⟨fun g3=>⟨by omega,fun _=>⟨⟨i+1,⟨?_,by omega⟩,by omega⟩,by omega⟩⟩,fun g3=>⟨⟨i+1,⟨?_,by omega⟩,by omega⟩,by omega⟩⟩⟩⟩,fun g2=>by rw[List.take_of_length_le g2,List.take_of_length_le (by omega)]⟩
  ·rw[zIb (by omega) (by omega) (fun h=>g3 h.symm)]
  ·rw[zIc (by omega) (by omega) g3.symm]
def zDW(f n w h:Int)(os es:List PV):VW × Int:=
 if 4096 < (os.length:Int)∨4096 < (es.length:Int) then (VW.no,2) else if (inB n 0 60=false∨zAP w h=false)∨inB f 0 (n - 1)=false then (VW.no,4) else if zAT os w h=false∨zAT es w h=false then (VW.no,1) else (⟨n,f,false,w,h,z9 0 os es⟩,0)
theorem zO9{f n w h:Int}{os es:List PV}(h1:4096 < (os.length:Int)∨4096 < (es.length:Int)):zDW f n w h os es=(VW.no,2):=if_pos h1
theorem zO8{f n w h:Int}{os es:List PV}(h1:(os.length:Int)≤4096)(h2:(es.length:Int)≤4096)(h3:(inB n 0 60=false∨zAP w h=false)∨inB f 0 (n - 1)=false):zDW f n w h os es=(VW.no,4):=by
 rw[zDW,if_neg (by omega),if_pos h3]
theorem zO7{f n w h:Int}{os es:List PV}(h1:(os.length:Int)≤4096)(h2:(es.length:Int)≤4096)(h3:inB n 0 60=true)(h4:zAP w h=true)(h5:inB f 0 (n - 1)=true)(h6:zAT os w h=false∨zAT es w h=false):zDW f n w h os es=(VW.no,1):=by
 rw[zDW,if_neg (by omega),if_neg (by simp[h3,h4,h5]),if_pos h6]
theorem zMv{f n w h:Int}{os es:List PV}(h1:(os.length:Int)≤4096)(h2:(es.length:Int)≤4096)(h3:inB n 0 60=true)(h4:zAP w h=true)(h5:inB f 0 (n - 1)=true)(h6:zAT os w h=true)(h7:zAT es w h=true):zDW f n w h os es=(⟨n,f,false,w,h,z9 0 os es⟩,0):=by
 rw[zDW,if_neg (by omega),if_neg (by simp[h3,h4,h5]),if_neg (by simp[h6,h7])]
def yC:zS:=⟨[(.rd,.int .i64),(.rd,.int .i64),(.rd,.int .i64),(.rd,.int .i64),(.rd,.list .str),(.rd,.list .str)],[.agg [.int .i64,.int .i64,.bool,.int .i64,.int .i64,.list (.agg [.int .i64,.str])],.int .i64],true,fun _=>True,
 fun ps=>[(zDW (nth ps 0).I (nth ps 1).I (nth ps 2).I (nth ps 3).I (nth ps 4).L (nth ps 5).L).1.pv,.int .i64 (zDW (nth ps 0).I (nth ps 1).I (nth ps 2).I (nth ps 3).I (nth ps 4).L (nth ps 5).L).2],fun _=>[]⟩
theorem zJO:yQ Tryz.prog 7 yC:=by
 refine zf [0,1,2,3,4,5,12,13] [.cell 12 28,.tmp 13] (zA (cs:=[]) zK8 (zA (cs:=[]) zF5 (zA (cs:=[]) zEA (zA (cs:=[]) zFJ (zA (cs:=[]) zC2 (zI (zF []))))))) zc Tryz.func7 rfl (by decide) rfl (by decide) rfl ?_
 intro ps hT hpre W hW
 simp only[yC,TyA,Ty,Tys] at hT hpre
 obtain⟨_,_,rfl,⟨f,rfl,hf⟩,_,_,rfl,⟨n,rfl,hn⟩,_,_,rfl,⟨w,rfl,hw⟩,_,_,rfl,⟨h,rfl,hh⟩,_,_,rfl,⟨os,rfl,hos,tos⟩,_,_,rfl,⟨es,rfl,hes,tes⟩,rfl⟩:=hT
 refine hW.vc [] _ _ ?_
 simp[-List.getD_eq_getElem?_getD,yC,yt,yP,zJ,zCA,zBO,VW.pv]
 have hn0:inB n 0 60=true→IntKind.i64.wrap (n - 1)=n - 1:=fun h=>zC (by simp[inB] at h;omega)
 refine fun _ _=>⟨fun h1=>by rw[zO9 h1];simp[VW.no],fun h1 h2=>⟨fun h3=>?_,fun h3 h4 h5=>⟨zCw h4,fun _=>zCw h4,fun h6=>?_,fun h6 h7=>⟨⟨by have:=zBI h6;have:=zBI h7;omega,by omega⟩,?_⟩⟩⟩⟩
 ·rw[zO8 h1 h2 (by
   by_cases h0:inB n 0 60=true
   ·rwa[hn0 h0] at h3
   ·exact .inl (.inl (by simpa using h0)))];simp[VW.no]
 ·rw[hn0 h3] at h5
  rw[zO7 h1 h2 h3 h4 h5 h6];simp[VW.no]
 ·rw[hn0 h3] at h5
  rw[zMv h1 h2 h3 h4 h5 h6 h7];simp
def zAq:zS:=yC
theorem zJK:yQ Tryz.prog 8 zAq:=by
 refine zf [0,1,2,3,4,5,12,13,14,15] [.cell 12 28,.tmp 13] (zA (cs:=[]) zIQ (zA (cs:=[]) zIR (zA (cs:=[]) zAU (zI (zF []))))) zc Tryz.func8 rfl (by decide) rfl (by decide) rfl ?_
 intro ps hT hpre W hW
 simp only[zAq,TyA,Ty,Tys] at hT hpre
 simp only[yC,TyA,Ty,Tys] at hT hpre
 obtain⟨_,_,rfl,⟨f,rfl,hf⟩,_,_,rfl,⟨n,rfl,hn⟩,_,_,rfl,⟨w,rfl,hw⟩,_,_,rfl,⟨h,rfl,hh⟩,_,_,rfl,⟨os,rfl,hos,tos⟩,_,_,rfl,⟨es,rfl,hes,tes⟩,rfl⟩:=hT
 refine hW.vc [(11,[],tkN [0,1,2,3,4,5,6,7,8] .done),(12,[9,11],tkN [0,1,2,3,4,5,6,7] (alN [8,9] (tkN [10] (alS 11 .done))))] _ _ ?_
 simp[-List.getD_eq_getElem?_getD,zAq,zb,zBb,zAY,yC,zJ,yP,zJ,yC,VW.pv]
 have hfn:inB n 0 60=true→(inB f 0 60=true∧f < n↔inB f 0 (n - 1)=true):=by intro h;simp[inB] at h ⊢;omega
 refine fun _ _=>⟨fun h1=>by rw[zO9 h1];simp[VW.no],fun h1 h2=>⟨fun h3=>?_,fun g1 h3 g2 h4=>?_⟩⟩
 ·rw[zO8 h1 h2 (by
   rcases h3 with ((h3 | h3) | h3) | h3
   ·by_cases h0:inB n 0 60=true
    ·exact .inr (by cases h5:inB f 0 (n - 1) with | false=>rfl | true=>have:=((hfn h0).2 h5).1;rw[h3] at this;cases this)
    ·exact .inl (.inl (by simpa using h0))
   ·exact .inl (.inl h3)
   ·by_cases h0:inB n 0 60=true
    ·exact .inr (by cases h5:inB f 0 (n - 1) with | false=>rfl | true=>have:=((hfn h0).2 h5).2;omega)
    ·exact .inl (.inl (by simpa using h0))
   ·exact .inl (.inr h3))];simp[VW.no]
 have h5:=(hfn h3).1 ⟨g1,g2⟩
 refine⟨zCw h4,fun _=>zCw h4,fun h6=>?_,fun h6 h7=>?_⟩
 ·rw[zO7 h1 h2 h3 h4 h5 h6];simp[VW.no]
 have hd:=zMv h1 h2 h3 h4 h5 h6 h7
 have hl6:=zBI h6
 have hl7:=zBI h7
 refine hW.loopS _ _ _ [.bx 14 [.int .i64,.int .i64,.bool,.int .i64,.int .i64,.list (.agg [.int .i64,.str])],.sl 15 .dp (.int .i64)] (fun ys=>∃(i:Nat),ys=[.agg [.int .i64 n,.int .i64 f,.bool false,.int .i64 w,.int .i64 h,.list (z9 0 (os.take i) (es.take i))],.int .i64 i]∧i≤es.length) (fun ys=>es.length - (nth ys 1).I.toNat) ?_ ?_
 ·simp[-List.getD_eq_getElem?_getD,zAq,zb,zBb,zAY,yC,zJ,yP]
  exact⟨0,⟨by simp[z9],rfl⟩,by simp⟩
 ·rintro ys ⟨i,rfl,k1⟩
  refine hW.vc [(11,[],tkN [0,1,2,3,4,5,6,7,8] .done),(12,[9,11],tkN [0,1,2,3,4,5,6,7] (alN [8,9] (tkN [10] (alS 11 .done))))] _ _ ?_
  simp[-List.getD_eq_getElem?_getD,zAq,zb,zBb,zAY,yC,zJ,yP,yC,VW.pv]
  have hdl:=zC6 (os.take i) (es.take i) 0
  rw[List.length_take] at hdl
  rw[zC (n:=(i:Int)+1) (by omega)]
  refine⟨fun g2=>⟨by decide +kernel,by omega,fun _=>⟨by omega,fun _=>⟨fun g3=>⟨by decide +kernel,by omega,fun _=>⟨by omega,fun _=>⟨⟨i+1,⟨?_,by omega⟩,by omega⟩,by omega⟩⟩⟩,fun g3=>⟨⟨i+1,⟨?_,by omega⟩,by omega⟩,by omega⟩⟩⟩⟩,fun g2=>?_⟩
  ·rw[zIb (by omega) (by omega) g3]
  ·rw[zIc (by omega) (by omega) g3]
  ·rw[hd,List.take_of_length_le (by omega),List.take_of_length_le (by omega)];simp
end
end Go.Proofs.YtdmbfkooebldcaaGreatDoor
