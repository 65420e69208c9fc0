/-
  Part 6: contracts of functions, and the laws by which they are proved.
  Conditions: none.
-/
import Derived.Test.YtdmbfkooebldcaaW5
set_option linter.unusedVariables false
set_option linter.unusedSimpArgs false
set_option linter.unusedSectionVars false
set_option maxRecDepth 100000
namespace Go.Proofs.Ytdmbfkooebldcaa
section
variable [ze]
def inB(n lo hi:Int):Bool:=decide (n ≥ lo)&&decide (n≤hi)
def zJ:zP:=⟨[(.rd,.int .i64),(.rd,.int .i64),(.rd,.int .i64)],[.bool],true,fun _=>True,fun ps=>[.bool (inB (nth ps 0).I (nth ps 1).I (nth ps 2).I)],fun _=>[]⟩
theorem zFa:yQ Try.prog 33 zJ:=by
 refine zf [0,1,2,6] [.tmp 6] (zG (zD [])) zb Try.func33 rfl (by decide) rfl (by decide) rfl ?_
 intro ps hT hpre W hW
 simp only[zJ,TyA,Ty,Tys] at hT hpre
 obtain⟨_,_,rfl,⟨a,rfl,ha⟩,_,_,rfl,⟨b,rfl,hb⟩,_,_,rfl,⟨c,rfl,hc⟩,rfl⟩:=hT
 refine hW.vc [] _ _ ?_
 simp[-List.getD_eq_getElem?_getD,zJ,inB]
 try rfl
def zY:zP:=zJ
theorem zAJ:yQ Try.prog 13 zY:=by
 refine zf [0,1,2,6] [.tmp 6] (zG (zD [])) zb Try.func13 rfl (by decide) rfl (by decide) rfl ?_
 intro ps hT hpre W hW
 simp only[zY,TyA,Ty,Tys] at hT hpre
 simp only[zJ,TyA,Ty] at hT
 obtain⟨_,_,rfl,⟨a,rfl,ha⟩,_,_,rfl,⟨b,rfl,hb⟩,_,_,rfl,⟨c,rfl,hc⟩,rfl⟩:=hT
 refine hW.vc [] _ _ ?_
 simp[-List.getD_eq_getElem?_getD,zY,zJ,zJ,inB]
 try rfl
def zBo(w h:Int):Bool:=inB w 2 24&&inB h 2 10
def ya:zP:=⟨[(.rd,.int .i64),(.rd,.int .i64)],[.bool],true,fun _=>True,fun ps=>[.bool (zBo (nth ps 0).I (nth ps 1).I)],fun _=>[]⟩
theorem zOW:yQ Try.prog 32 ya:=by
 refine zf [0,1,4] [.tmp 4] (zA (cs:=[]) zFa (zG (zD []))) zb Try.func32 rfl (by decide) rfl (by decide) rfl ?_
 intro ps hT hpre W hW
 simp only[ya,TyA,Ty,Tys] at hT hpre
 obtain⟨_,_,rfl,⟨a,rfl,ha⟩,_,_,rfl,⟨b,rfl,hb⟩,rfl⟩:=hT
 refine hW.vc [] _ _ ?_
 simp[-List.getD_eq_getElem?_getD,ya,zJ,zBo]
def zAO:zP:=ya
theorem zGN:yQ Try.prog 14 zAO:=by
 refine zf [0,1,4] [.tmp 4] (zA (cs:=[]) zAJ (zG (zD []))) zb Try.func14 rfl (by decide) rfl (by decide) rfl ?_
 intro ps hT hpre W hW
 simp only[zAO,TyA,Ty,Tys] at hT hpre
 simp only[ya,TyA,Ty] at hT
 obtain⟨_,_,rfl,⟨a,rfl,ha⟩,_,_,rfl,⟨b,rfl,hb⟩,rfl⟩:=hT
 refine hW.vc [] _ _ ?_
 simp[-List.getD_eq_getElem?_getD,zAO,zY,ya,zJ,zJ,ya,zBo]
end
section
variable [ze]
theorem zER{n a b:Int}:inB n a b=true↔a≤n∧n≤b:=by simp[inB]
structure PR where
 st:Int
 args:List PV
 priv:Bool
 txt:List UInt8
 utf:List UInt8
def PR.pv(p:PR):PV:=.agg [.int .i64 p.st,.list p.args,.bool p.priv,.str p.txt,.str p.utf]
def PR.rv(p:PR)(out:List PV):PV:=.agg [.int .i64 p.st,.list p.args,.bool p.priv,.str p.txt,.str p.utf,.list out]
def zCZ(v:List PV):PR:=⟨(nth v 0).I,(nth v 1).L,(nth v 2).B,(nth v 3).S,(nth v 4).S⟩
def PR.g:PR:=⟨0,[],false,[],[]⟩
def acV(k n:Int)(priv:Bool)(args:List PV)(t:List UInt8):PV:=.agg [.int .i64 k,.int .i64 n,.bool priv,.list args,.str t]
def zJy(b:Int):Bool:=b == 7 || b == 8 || b == 9 || b == 10 || b == 13
def zS2(b:Int):Bool:=b == 55 || b == 56 || b == 68 || b == 69 || b == 77 || b == 99
def zOL(b:Int):Int:=if b < 128 then 1 else if inB b 194 223 then 2 else if inB b 224 239 then 3 else if inB b 240 244 then 4 else 0
def zDY:List UInt8→Int
 | []=>0
 | h :: _=>zOL h.toNat
def loF(h:Int)(i:Nat):Int:=if i=1 then (if h=224 then 160 else if h=240 then 144 else 128) else 128
def hiF(h:Int)(i:Nat):Int:=if i=1 then (if h=237 then 159 else if h=244 then 143 else 191) else 191
def zHw(h:Int)(i:Nat):List UInt8→Bool
 | []=>true
 | b :: r=>inB b.toNat (loF h i) (hiF h i)&&zHw h (i+1) r
def zFP:List UInt8→Bool
 | []=>true
 | h :: r=>zHw h.toNat 1 r
def zBs(n:Int):List UInt8→Int
 | []=>n
 | b :: r=>zBs (n*64+b.toNat - 128) r
def zBy:List UInt8→Int
 | []=>0
 | h :: r=>zBs ((h.toNat:Int) - (if r.length=1 then 192 else if r.length=2 then 224 else if r.length=3 then 240 else 0)) r
def u8(b:Int):UInt8:=UInt8.ofNat (IntKind.u8.wrap b).toNat
def zBf(p:PR)(b:Int):PR × List PV:=
 if b=27 then ({ p with st:=1 },[]) else if zJy b then (p,[acV 2 b false [] []]) else if inB b 32 126 then (p,[acV 1 b false [] []])
 else if b < 128 then (p,[]) else if 1 < zOL b then ({ p with st:=6,utf:=[u8 b] },[]) else (p,[acV 1 65533 false [] []])
def zBl(p:PR)(b:Int):PR × List PV:=
 if b=91 then ({ p with st:=2,args:=[.int .i64 (-1)] },[]) else if b=93 then ({ p with st:=4 },[]) else if b=27 then (p,[]) else if zS2 b then (PR.g,[acV 3 b false [] []]) else (PR.g,[])
def zPm(p:PR)(b:Int):PR × List PV:=
 if zFP (p.utf++[u8 b])=false then ((zBf PR.g b).1,acV 1 65533 false [] [] :: (zBf PR.g b).2)
 else if ((p.utf++[u8 b]).length:Int) < zDY (p.utf++[u8 b]) then ({ p with utf:=p.utf++[u8 b] },[])
 else (PR.g,[acV 1 (zBy (p.utf++[u8 b])) false [] []])
def zR8(a b:Int):Int:=if (if 0 < a then a else 0)*10+b - 48 < 9999 then (if 0 < a then a else 0)*10+b - 48 else 9999
def zJz(p:PR)(b:Int):PR × List PV:=
 if b=27 then ({ PR.g with st:=1 },[]) else if zJy b then (p,[acV 2 b false [] []])
 else if inB b 48 57 then ({ p with args:=p.args.set (p.args.length - 1) (.int .i64 (zR8 (nth p.args (p.args.length - 1)).I b)) },[])
 else if b=59∧p.args.length < 8 then ({ p with args:=p.args++[.int .i64 (-1)] },[])
 else if b=63∧p.args.length=1∧(nth p.args 0).I < 0∧p.priv=false then ({ p with priv:=true },[])
 else if inB b 64 126 then (PR.g,[acV 4 b p.priv p.args []]) else ({ PR.g with st:=3 },[])
def zPr(p:PR)(b:Int):PR × List PV:=if b=27 then ({ p with st:=1 },[]) else if inB b 64 126 then (PR.g,[]) else (p,[])
def zPV(p:PR)(b:Int):PR × List PV:=
 if b=7 then (PR.g,[acV 5 0 false [] p.txt]) else if b=27 then ({ p with st:=5 },[]) else if inB b 32 126∧p.txt.length < 40 then ({ p with txt:=p.txt++[u8 b] },[]) else (p,[])
def zEs(p:PR)(b:Int):PR × List PV:=if b=92 then (PR.g,[acV 5 0 false [] p.txt]) else zBl { PR.g with st:=1 } b
def zD7(p:PR)(b:Int):PR × List PV:=
 if p.st=1 then zBl p b else if p.st=2 then zJz p b else if p.st=3 then zPr p b else if p.st=4 then zPV p b else if p.st=5 then zEs p b else if p.st=6 then zPm p b else zBf p b
def zAs(p:PR):List UInt8→List PV→PR × List PV
 | [],acc=>(p,acc)
 | b :: r,acc=>zAs (zD7 p b.toNat).1 r (acc++(zD7 p b.toNat).2)
structure zD4 (p:PR):Prop where
 s:p.st=2→p.args≠[]
 a:∀e∈p.args,∃n,e=.int .i64 n∧-1≤n∧n≤9999
 l:p.args.length≤8
 u:p.st=6→zFP p.utf=true∧(p.utf.length:Int) < zDY p.utf∧p.utf≠[]
 t:p.txt.length≤40
theorem zD4.g:zD4 PR.g:=⟨by decide,by intro e he;simp[PR.g] at he,by decide,by decide,by decide⟩
theorem zD4.st{p:PR}(h:zD4 p){s:Int}(hs:s≠2)(h6:s≠6):zD4 { p with st:=s }:=⟨fun e=>absurd e hs,h.a,h.l,fun e=>absurd e h6,h.t⟩
theorem zKL{t:List UInt8}:zDY t≤4:=by
 cases t with
 | nil=>simp[zDY]
 | cons a l=>rw[zDY,zOL];repeat' split<;>try omega
theorem zD4.ul{p:PR}(h:zD4 p)(h6:p.st=6):p.utf.length≤3:=by
 have:=(h.u h6).2.1
 have:=zKL (t:=p.utf)
 omega
end
section
variable [ze]
def eqL(f:PV→PV→Bool):List PV→List PV→Bool
 | [],[]=>true
 | a :: l,b :: m=>f a b&&eqL f l m
 | _,_=>false
theorem zNH{f:PV→PV→Bool}:∀{a b:List PV},a.length≠b.length→eqL f a b=false
 | [],[],h=>absurd rfl h
 | [],_ :: _,_=>rfl
 | _ :: _,[],_=>rfl
 | x :: a,y :: b,h=>by simp only[eqL,zNH (a:=a) (b:=b) (by simpa using h),Bool.and_false]
end
section
variable [ze]
def zAp(l:List UInt8):Int:=l.foldl (fun n b=>n*256+b.toNat) 0
theorem zGD(l:List UInt8)(b:UInt8):zAp (l++[b])=zAp l*256+b.toNat:=by simp[zAp]
theorem zIc{l:List UInt8}{i:Nat}(h:i < l.length):zAp (l.take (i+1))=zAp (l.take i)*256+(l.getD i 0).toNat:=by
 rw[List.take_succ_eq_append_getElem h,zGD];simp[h]
theorem zDG:∀(n:Nat) (l:List UInt8),l.length=n→0≤zAp l∧zAp l < 256 ^ n
 | 0,l,h=>by have:=List.eq_nil_of_length_eq_zero h;subst this;simp[zAp]
 | n+1,l,h=>by
  have h0:l≠[]:=by intro e;subst e;simp at h
  have h1:=List.dropLast_concat_getLast h0
  have h2:=zDG n l.dropLast (by simp[h])
  have h3:=(l.getLast h0).toNat_lt
  rw[←h1,zGD,Int.pow_succ]
  omega
theorem zEt{l:List UInt8}(h:l.length≤7)(i:Nat):0≤zAp (l.take i)∧zAp (l.take i) < 72057594037927936:=by
 have h1:=zDG (l.take i).length (l.take i) rfl
 refine⟨h1.1,Int.lt_of_lt_of_le h1.2 ?_⟩
 have h2:(l.take i).length≤7:=by simp;omega
 have h3:(256:Int) ^ (l.take i).length≤256 ^ 7:=by
  have:=Nat.pow_le_pow_right (n:=256) (by decide) h2
  exact_mod_cast this
 exact Int.le_trans h3 (by decide)
theorem zKX{l:List UInt8}(h:l.length≤7){i:Nat}(hi:i < l.length):0≤zAp (l.take i)∧zAp (l.take i) < 281474976710656:=by
 have h1:=zDG (l.take i).length (l.take i) rfl
 refine⟨h1.1,Int.lt_of_lt_of_le h1.2 ?_⟩
 have h2:(l.take i).length≤6:=by simp;omega
 have h3:(256:Int) ^ (l.take i).length≤256 ^ 6:=by
  have:=Nat.pow_le_pow_right (n:=256) (by decide) h2
  exact_mod_cast this
 exact Int.le_trans h3 (by decide)
theorem zP9{m:Int}{b:UInt8}(h0:0≤m)(h1:m < 281474976710656):orI .i64 (m*256) b.toNat=m*256+b.toNat:=by
 obtain⟨k,rfl⟩:=Int.eq_ofNat_of_zero_le h0
 have hb:=b.toNat_lt
 unfold orI
 have hw:IntKind.i64.bits=64:=rfl
 rw[hw]
 have e1:(BitVec.ofInt 64 ((k:Int)*256)).toNat=k*256:=by
  rw[show(k:Int)*256=((k*256:Nat):Int) by simp,BitVec.ofInt_natCast,BitVec.toNat_ofNat]
  exact Nat.mod_eq_of_lt (by omega)
 have e2:(BitVec.ofInt 64 (b.toNat:Int)).toNat=b.toNat:=by
  rw[BitVec.ofInt_natCast,BitVec.toNat_ofNat]
  exact Nat.mod_eq_of_lt (by omega)
 rw[BitVec.toNat_or,e1,e2]
 have e3:k*256 ||| b.toNat=k*256+b.toNat:=by
  have:=Nat.shiftLeft_add_eq_or_of_lt (i:=8) (b:=b.toNat) (by omega) k
  rw[Nat.shiftLeft_eq] at this
  exact this.symm
 rw[e3]
 rw[zC (by omega)]
 simp
theorem zC5(b:UInt8):IntKind.i64.wrap (b.toNat:Int)=b.toNat:=zC (by have:=b.toNat_lt;omega)
def zn:zP:=⟨[(.rd,.str)],[.int .i64],true,fun ps=>(nth ps 0).S.length≤7,fun ps=>[.int .i64 (zAp (nth ps 0).S)],fun _=>[]⟩
theorem zJi:yQ Try.prog 50 zn:=by
 refine zf [0,2,3,4] [.tmp 2] (zG (zD [])) zb Try.func50 rfl (by decide) rfl (by decide) rfl ?_
 intro ps hT hpre W hW
 simp only[zn,TyA,Ty,Tys] at hT hpre
 obtain⟨_,_,rfl,⟨l,rfl,hl⟩,rfl⟩:=hT
 simp only[zF,zCt] at hpre
 refine hW.vc [] _ _ ?_
 simp[-List.getD_eq_getElem?_getD,zn]
 refine hW.loopS _ _ _ [.sl 3 .dp (.int .i64),.sl 4 .dp (.int .i64)] (fun ys=>∃i:Nat,ys=[.int .i64 (zAp (l.take i)),.int .i64 i]∧i≤l.length) (fun ys=>l.length - (nth ys 1).I.toNat) ?_ ?_
 ·simp[-List.getD_eq_getElem?_getD,zn]
  exact⟨0,⟨by simp[zAp],rfl⟩,by simp⟩
 ·rintro ys ⟨i,rfl,h4⟩
  refine hW.vc [] _ _ ?_
  simp[-List.getD_eq_getElem?_getD,zn]
  refine fun _=>⟨fun h6=>⟨h6,?_⟩,fun h6=>by rw[List.take_of_length_le h6]⟩
  have h7:=zEt hpre i
  have h8:=zKX hpre h6
  have h9:=(l.getD i 0).toNat_lt
  rw[zC5,zC (n:=zAp (l.take i)*256) (by omega),zC (by omega),zC (by omega)]
  exact⟨⟨i+1,⟨(zIc h6).symm,by omega⟩,by omega⟩,by omega⟩
def yB:zP:=zn
theorem zDu:yQ Try.prog 58 yB:=by
 refine zf [0,2,3,4,6,7] [.tmp 2] (zG (zD [])) zb Try.func58 rfl (by decide) rfl (by decide) rfl ?_
 intro ps hT hpre W hW
 simp only[yB,TyA,Ty,Tys] at hT hpre
 simp only[zn,TyA,Ty] at hT hpre
 obtain⟨_,_,rfl,⟨l,rfl,hl⟩,rfl⟩:=hT
 simp only[zF,zCt] at hpre
 refine hW.vc [] _ _ ?_
 simp[-List.getD_eq_getElem?_getD,yB,zn,zn]
 intro h0
 refine hW.loopS _ _ _ [.sl 3 .dp (.int .i64),.sl 7 .dp (.int .i64)] (fun ys=>∃i:Nat,ys=[.int .i64 (zAp (l.take i)),.int .i64 i]∧i≤l.length) (fun ys=>l.length - (nth ys 1).I.toNat) ?_ ?_
 ·simp[-List.getD_eq_getElem?_getD,yB,zn]
  exact⟨0,⟨by simp[zAp],rfl⟩,by simp⟩
 ·rintro ys ⟨i,rfl,h4⟩
  refine hW.vc [] _ _ ?_
  simp[-List.getD_eq_getElem?_getD,yB,zn,zn]
  refine⟨fun h6=>⟨h6,?_⟩,fun h6=>by rw[List.take_of_length_le h6]⟩
  have h7:=zEt hpre i
  have h8:=zKX hpre h6
  have h9:=(l.getD i 0).toNat_lt
  rw[zC5,show shlI IntKind.i64 (zAp (List.take i l)) 8=IntKind.i64.wrap (zAp (l.take i)*256) from rfl,zC (n:=zAp (l.take i)*256) (by omega),zC (by omega),zP9 h8.1 h8.2]
  exact⟨⟨i+1,⟨(zIc h6).symm,by omega⟩,by omega⟩,by omega⟩
def zMN(n:Int):Bool:=inB n 0 1114111&&!inB n 55296 57343
def zA0(n:Int):Bool:=inB n 32 1114111&&(n != 127)&&!inB n 55296 57343
def zOm(r k:Int):Bool:=zMN r&&decide (r ≥ 32)&&(r != 127)&&inB k 0 127
def zCh:zP:=⟨[(.rd,.int .i64)],[.bool],true,fun _=>True,fun ps=>[.bool (zMN (nth ps 0).I)],fun _=>[]⟩
theorem zJh:yQ Try.prog 64 zCh:=by
 refine zf [0,2] [.tmp 2] (zA (cs:=[]) zAJ (zG (zD []))) zb Try.func64 rfl (by decide) rfl (by decide) rfl ?_
 intro ps hT hpre W hW
 simp only[zCh,TyA,Ty,Tys] at hT hpre
 obtain⟨_,_,rfl,⟨a,rfl,ha⟩,rfl⟩:=hT
 refine hW.vc [] _ _ ?_
 simp[-List.getD_eq_getElem?_getD,zCh,zY,zJ,zJ]
 rfl
def zDT:zP:=⟨[(.rd,.int .i64)],[.bool],true,fun _=>True,fun ps=>[.bool (zA0 (nth ps 0).I)],fun _=>[]⟩
theorem zOX:yQ Try.prog 57 zDT:=by
 refine zf [0,2] [.tmp 2] (zA (cs:=[]) zFa (zG (zD []))) zb Try.func57 rfl (by decide) rfl (by decide) rfl ?_
 intro ps hT hpre W hW
 simp only[zDT,TyA,Ty,Tys] at hT hpre
 obtain⟨_,_,rfl,⟨a,rfl,ha⟩,rfl⟩:=hT
 refine hW.vc [] _ _ ?_
 simp[-List.getD_eq_getElem?_getD,zDT,zJ]
 simp only[zA0];congr 2
def zCI:zP:=⟨[(.rd,.agg [.int .i64,.int .i64])],[.bool],true,fun _=>True,fun ps=>[.bool (zOm (nth (nth ps 0).A 0).I (nth (nth ps 0).A 1).I)],fun _=>[]⟩
theorem zMz:yQ Try.prog 49 zCI:=by
 refine zf [0,1,2] [.tmp 2] (zA (cs:=[]) zAJ (zA (cs:=[]) zJh (zG (zD [])))) zb Try.func49 rfl (by decide) rfl (by decide) rfl ?_
 intro ps hT hpre W hW
 simp only[zCI,TyA,Ty,Tys] at hT hpre
 obtain⟨_,_,rfl,⟨_,rfl,_,_,rfl,⟨a,rfl,ha⟩,_,_,rfl,⟨b,rfl,hb⟩,rfl⟩,rfl⟩:=hT
 refine hW.vc [] _ _ ?_
 simp[-List.getD_eq_getElem?_getD,zCI,zCh,zY,zJ,zJ]
 simp only[zOm];congr 2
def zJM:List UInt8→Bool
 | []=>true
 | a :: b :: c :: d :: l=>zA0 (zAp [a,b,c])&&decide (d.toNat≤127)&&zJM l
 | _=>false
def zIP(l:List UInt8)(w:Int):Bool:=decide ((l.length:Int)=4*w)&&zJM l
theorem zEq{r:List UInt8}(h:4≤r.length):zJM r=(zA0 (zAp (r.take 3))&&decide ((r.getD 3 0).toNat≤127)&&zJM (r.drop 4)):=by
 match r,h with
 | a :: b :: c :: d :: l,_=>rfl
theorem zQm(n:Int)(d:UInt8):zOm n d.toNat=(zA0 n&&decide (d.toNat≤127)):=by
 rw[Bool.eq_iff_iff]
 simp[zOm,zA0,zMN,inB]
 omega
theorem zPz{l:List UInt8}{n:Nat}(i:Nat):(l.drop n).getD i 0=l.getD (n+i) 0:=by
 simp only[List.getD_eq_getElem?_getD,List.getElem?_drop]
def zC7:zP:=⟨[(.rd,.str),(.rd,.int .i64)],[.bool],true,fun ps=>0≤(nth ps 1).I∧(nth ps 1).I≤1000,fun ps=>[.bool (zIP (nth ps 0).S (nth ps 1).I)],fun _=>[]⟩
theorem zQP:yQ Try.prog 34 zC7:=by
 refine zf [0,1,4] [.tmp 4] (zA (cs:=[]) zOX (zA (cs:=[]) zDu (zG (zD [])))) zb Try.func34 rfl (by decide) rfl (by decide) rfl ?_
 intro ps hT hpre W hW
 simp only[zC7,TyA,Ty,Tys] at hT hpre
 obtain⟨_,_,rfl,⟨l,rfl,hl⟩,_,_,rfl,⟨w,rfl,hw⟩,rfl⟩:=hT
 simp only[zF,zK,zCt,zAS] at hpre
 refine hW.vc [] _ _ ?_
 simp[-List.getD_eq_getElem?_getD,zC7,yB,zDT,zn]
 intro h1
 rw[zC (by omega)]
 refine⟨fun h=>by simp[zIP,h],fun h=>?_⟩
 refine hW.loopS _ _ _ [.sl 0 .dp .str] (fun ys=>∃r,ys=[.str r]∧(∃k,r.length=4*k)∧r.length≤l.length∧zIP l w=zJM r) (fun ys=>(nth ys 0).S.length) ?_ ?_
 ·simp[-List.getD_eq_getElem?_getD,zC7,yB,zDT,zn]
  exact⟨⟨w.toNat,by omega⟩,by simp[zIP,h]⟩
 ·rintro ys ⟨r,rfl,⟨k,hk⟩,h2,h3⟩
  refine hW.vc [] _ _ ?_
  simp[-List.getD_eq_getElem?_getD,zC7,yB,zDT,zn]
  refine⟨fun h4=>?_,fun h4=>by rw[h3,h4];rfl⟩
  have h5:r.length≠0:=fun e=>h4 (List.eq_nil_of_length_eq_zero e)
  have h6:4≤r.length:=by omega
  rw[zEq h6] at h3
  refine⟨by omega,by omega,fun h7=>⟨h7,by omega⟩,fun h7=>?_,fun h7 h8=>⟨by omega,⟨⟨k - 1,by omega⟩,by omega,?_⟩,by omega⟩⟩
  ·rw[h3]
   rcases h7 with h7 | h7
   ·simp[h7]
   ·have:¬(r.getD 3 0).toNat≤127:=by omega
    simp only[this,decide_false,Bool.and_false,Bool.false_and]
  ·have:(r.getD 3 0).toNat≤127:=by omega
   rw[h3,h7,List.take_of_length_le (by simp)]
   simp only[this,decide_true,Bool.and_true,Bool.true_and]
def zAm:zP:=⟨[(.rd,.int .i64),(.rd,.str)],[.bool],true,fun ps=>0≤(nth ps 0).I∧(nth ps 0).I≤1000,fun ps=>[.bool (zIP (nth ps 1).S (nth ps 0).I)],fun _=>[]⟩
theorem zKd:yQ Try.prog 26 zAm:=by
 refine zf [0,1,4,5] [.tmp 4] (zA (cs:=[]) zMz (zA (cs:=[]) zJi (zG (zD [])))) zb Try.func26 rfl (by decide) rfl (by decide) rfl ?_
 intro ps hT hpre W hW
 simp only[zAm,TyA,Ty,Tys] at hT hpre
 obtain⟨_,_,rfl,⟨w,rfl,hw⟩,_,_,rfl,⟨l,rfl,hl⟩,rfl⟩:=hT
 simp only[zF,zK,zCt,zAS] at hpre
 refine hW.vc [(6,[],tkN [0,1,2,3,4,5,6,8,9,10,11,12,13] (alS 7 (tkN [14] (alS 15 (tkN [16] .done)))))] _ _ ?_
 simp[-List.getD_eq_getElem?_getD,zAm,zn,zCI]
 intro h1
 rw[zC (by omega)]
 refine⟨fun h=>by simp[zIP,h],fun h=>?_⟩
 refine hW.loopS _ _ _ [.sl 5 .dp (.int .i64)] (fun ys=>∃x:Nat,ys=[.int .i64 x]∧(x:Int)≤w∧zIP l w=zJM (l.drop (4*x))) (fun ys=>(w - (nth ys 0).I).toNat) ?_ ?_
 ·simp[-List.getD_eq_getElem?_getD,zAm,zn,zCI]
  exact⟨0,rfl,by omega,by simp[zIP,h]⟩
 ·rintro ys ⟨x,rfl,h2,h3⟩
  refine hW.vc [(6,[],tkN [0,1,2,3,4,5,6,8,9,10,11,12,13] (alS 7 (tkN [14] (alS 15 (tkN [16] .done)))))] _ _ ?_
  simp[-List.getD_eq_getElem?_getD,zAm,zn,zCI]
  refine⟨fun h4=>⟨by decide +kernel,?_⟩,fun h4=>?_⟩
  ·rw[zC (n:=4*(x:Int)) (by omega),zC (n:=4*(x:Int)+3) (by omega),zC5,zQm]
   have e1:(4*(x:Int)).toNat=4*x:=by omega
   have e2:(4*(x:Int)+3).toNat=4*x+3:=by omega
   have e3:4*x+3 - 4*x=3:=by omega
   rw[e1,e2,e3]
   have h5:4≤(l.drop (4*x)).length:=by simp;omega
   rw[zEq h5,zPz,List.drop_drop] at h3
   rw[zC (by omega)]
   refine⟨⟨by omega,by omega,by omega⟩,⟨by omega,by omega⟩,by omega,fun h6=>by rw[h3,h6];rfl,fun h6=>⟨⟨x+1,by omega,by omega,?_⟩,by omega⟩⟩
   rw[h3,h6,Bool.true_and,Nat.mul_add]
  ·rw[h3,List.drop_eq_nil_of_le (by omega)];rfl
end
section
variable [ze]
def zBz(es:List PV)(w h:Int):Bool:=decide ((es.length:Int)=h)&&es.all fun e=>zIP e.S w
def zES(p:PV→Bool)(i:Nat):List PV→Int
 | []=>-1
 | e :: es=>if p e then (i:Int) else zES p (i+1) es
theorem zGW(p:PV→Bool):∀(es:List PV) (i:Nat),decide (0≤zES p i es)=es.any p
 | [],i=>by simp[zES]
 | e :: es,i=>by
  simp only[zES,List.any_cons]
  by_cases h:p e=true
  ·simp[h]
  ·simp[h,zGW p es (i+1)]
def wOk(w:Int):Prop:=0≤w∧w≤1000
theorem zMO{es:List PV}{w h:Int}(hl:(es.length:Int)≠h):zBz es w h=false:=by simp[zBz,hl]
def zAl:zP:=⟨[(.rd,.int .i64),(.rd,.int .i64),(.rd,.list .str)],[.bool],true,fun ps=>wOk (nth ps 0).I,fun ps=>[.bool (zBz (nth ps 2).L (nth ps 0).I (nth ps 1).I)],fun _=>[]⟩
theorem zIm:yQ Try.prog 15 zAl:=by
 refine zf [0,1,2,6,7] [.tmp 6] (zA (cs:=[]) zKd (zG (zD []))) zb Try.func15 rfl (by decide) rfl (by decide) rfl ?_
 intro ps hT hpre W hW
 simp only[zAl,TyA,Ty,Tys] at hT hpre
 obtain⟨_,_,rfl,⟨w,rfl,hw⟩,_,_,rfl,⟨h,rfl,hh⟩,_,_,rfl,⟨es,rfl,he,hes⟩,rfl⟩:=hT
 simp only[zF,zK,zCt,zAS,zBp] at hpre
 refine hW.vc [] _ _ ?_
 simp[-List.getD_eq_getElem?_getD,zAl,zAm]
 refine fun h1=>⟨fun h2=>zMO h2,fun h2=>?_⟩
 refine hW.loopS _ _ _ [.sl 7 .dp (.int .i64)] (fun ys=>∃i:Nat,ys=[.int .i64 i]∧i≤es.length∧zBz es w h=(es.drop i).all fun e=>zIP e.S w) (fun ys=>es.length - (nth ys 0).I.toNat) ?_ ?_
 ·simp[-List.getD_eq_getElem?_getD,zAl,zAm]
  exact⟨0,rfl,by simp,by simp[zBz,h2]⟩
 ·rintro ys ⟨i,rfl,h3,h4⟩
  refine hW.vc [] _ _ ?_
  simp[-List.getD_eq_getElem?_getD,zAl,zAm]
  refine⟨fun h5=>⟨by omega,fun _=>⟨hpre,fun h6=>?_,fun h6=>?_⟩⟩,fun h5=>?_⟩
  ·rw[h4,zBC (by omega)];simp[h6]
  ·rw[zC (by omega)]
   refine⟨⟨i+1,by omega,by omega,?_⟩,by omega⟩
   rw[h4,zBC (by omega)];simp[h6]
  ·rw[h4,List.drop_eq_nil_of_le (by omega)];rfl
theorem zHc{w h:Int}(hs:zBo w h=true):wOk w:=by
 simp[zBo,inB] at hs;unfold wOk;omega
def zBc:zP:=⟨[(.rd,.int .i64)],[.bool],true,fun _=>True,fun ps=>[.bool (inB (nth ps 0).I 0 60)],fun _=>[]⟩
theorem zLX:yQ Try.prog 31 zBc:=by
 refine zf [0,2] [.tmp 2] (zA (cs:=[]) zFa (zG (zD []))) zb Try.func31 rfl (by decide) rfl (by decide) rfl ?_
 intro ps hT hpre W hW
 simp only[zBc,TyA,Ty,Tys] at hT hpre
 obtain⟨_,_,rfl,⟨a,rfl,ha⟩,rfl⟩:=hT
 refine hW.vc [] _ _ ?_
 simp[-List.getD_eq_getElem?_getD,zBc,zJ]
end
section
variable [ze]
theorem zKr{f:PV→PV→Bool}(hf:∀x,f x x=true):∀{es:List PV},eqL f es es=true
 | []=>rfl
 | e :: es=>by simp[eqL,hf,zKr hf (es:=es)]
end
section
variable [ze]
def zKq(a b:List PV):Bool:=(nth a 0).I == (nth b 0).I&&(nth a 1).S == (nth b 1).S
def zEU(a b:PV):Bool:=zKq a.A b.A
theorem zJs(a:PV):zEU a a=true:=by simp[zEU,zKq]
def zQV(a b:List PV):Bool:=(nth a 0).I == (nth b 0).I&&(nth a 1).I == (nth b 1).I&&(nth a 2).B == (nth b 2).B&&(nth a 3).I == (nth b 3).I&&(nth a 4).I == (nth b 4).I&&eqL zEU (nth a 5).L (nth b 5).L
def upB(w h:Int)(p:Int):List PV→Bool
 | []=>true
 | e :: es=>inB (nth e.A 0).I 0 (h - 1)&&decide (p < (nth e.A 0).I)&&zIP (nth e.A 1).S w&&upB w h (nth e.A 0).I es
def leB(a b:Int):Bool:=decide (a≤b)
def zMD(c a b:Bool):Bool:=(c&&a) || (!c&&b)
def zBd(v:List PV):Bool:=
 inB (nth v 0).I 0 60&&zBo (nth v 3).I (nth v 4).I&&leB (nth v 5).L.length (nth v 4).I&&upB (nth v 3).I (nth v 4).I (-1) (nth v 5).L &&
  zMD (nth v 2).B ((nth v 1).I == 0&&((nth v 5).L.length:Int) == (nth v 4).I) (inB (nth v 1).I 0 ((nth v 0).I - 1))
def pvY(es:List PV)(i:Nat):Int:=if i=0 then -1 else (nth (nth es (i - 1)).A 0).I
theorem zLx{n f w h:Int}{u:Bool}{es:List PV}(h2:(inB n 0 60=false∨zBo w h=false)∨h < es.length):zBd [.int .i64 n,.int .i64 f,.bool u,.int .i64 w,.int .i64 h,.list es]=false:=by
 simp only[zBd,zF,zK,zAS,zCk]
 rcases h2 with (h2 | h2) | h2
 ·simp[h2]
 ·simp[h2]
 ·have:¬(es.length:Int)≤h:=by omega
  simp[this,leB]
theorem zLy{n f w h:Int}{u:Bool}{es:List PV}(h2:inB n 0 60=true)(h3:zBo w h=true)(h4:(es.length:Int)≤h):(2≤w∧w≤24∧2≤h∧h≤10) ∧
  zBd [.int .i64 n,.int .i64 f,.bool u,.int .i64 w,.int .i64 h,.list es]=(upB w h (-1) es&&zMD u (f == 0&&(es.length:Int) == h) (inB f 0 (n - 1))):=by
 refine⟨by simp[zBo,inB] at h3;omega,?_⟩
 simp[zBd,zF,zK,zAS,zCk,zNj,h2,h3,h4,leB]
theorem zN9(es:List PV)(i:Nat):pvY es (i+1)=(nth (nth es i).A 0).I:=by simp[pvY]
theorem zMU{es:List PV}{i:Nat}(h:0 < i):pvY es i=(nth (nth es (i - 1)).A 0).I:=by rw[pvY,if_neg (by omega)]
theorem zSk{es:List PV}{i:Nat}{y h:Int}(h1:inB y 0 h=true)(h2:0 < i→(nth (nth es (i - 1)).A 0).I < y):pvY es i < y:=by
 by_cases h0:0 < i
 ·rw[zMU h0];exact h2 h0
 ·have:pvY es i=-1:=by rw[pvY,if_pos (by omega)]
  rw[this]
  simp[inB] at h1;omega
def yA:zP:=⟨[(.rd,.agg [.int .i64,.int .i64,.bool,.int .i64,.int .i64,.list (.agg [.int .i64,.str])])],[.bool],true,fun _=>True,fun ps=>[.bool (zBd (nth ps 0).A)],fun _=>[]⟩
theorem zKh:yQ Try.prog 19 yA:=by
 refine zf [0,1,2,3,4,26,27,28] [.tmp 2] (zA (cs:=[]) zQP (zA (cs:=[]) zFa (zA (cs:=[]) zOW (zA (cs:=[]) zLX (zG (zD [])))))) zb Try.func19 rfl (by decide) rfl (by decide) rfl ?_
 intro ps hT hpre W hW
 simp only[yA,TyA,Ty,Tys] at hT hpre
 obtain⟨_,_,rfl,⟨_,rfl,_,_,rfl,⟨n,rfl,hn⟩,_,_,rfl,⟨f,rfl,hf⟩,_,_,rfl,⟨u,rfl⟩,_,_,rfl,⟨w,rfl,hw⟩,_,_,rfl,⟨h,rfl,hh⟩,_,_,rfl,⟨es,rfl,hes,tes⟩,rfl⟩,rfl⟩:=hT
 refine hW.vc [(6,[],tkN [0,1,2,3,4] (alS 5 (tkN [6,7,8,9,10,11,12,13,14,15,16,17,18,19,20,21,22,23,24,25,26,27] (alS 28 (tkN [29,30] .done)))))] _ _ ?_
 simp[-List.getD_eq_getElem?_getD,yA,zBc,ya,zJ,zC7]
 intro h1
 refine⟨zLx,fun h2 h3 h4 h5=>?_⟩
 obtain⟨h6,h7⟩:=zLy (u:=u) (f:=f) h2 h3 h4
 refine hW.loopS _ _ _ [.sl 28 .dp (.int .i64)] (fun ys=>∃i:Nat,ys=[.int .i64 i]∧i≤es.length∧upB w h (-1) es=upB w h (pvY es i) (es.drop i)) (fun ys=>es.length - (nth ys 0).I.toNat) ?_ ?_
 ·simp[-List.getD_eq_getElem?_getD,yA,zBc,ya,zJ,zC7]
  exact⟨0,rfl,by simp,by simp[pvY]⟩
 ·rintro ys ⟨i,rfl,g1,g2⟩
  refine hW.vc [(6,[],tkN [0,1,2,3,4] (alS 5 (tkN [6,7,8,9,10,11,12,13,14,15,16,17,18,19,20,21,22,23,24,25,26,27] (alS 28 (tkN [29,30] .done)))))] _ _ ?_
  simp[-List.getD_eq_getElem?_getD,yA,zBc,ya,zJ,zC7]
  have k1:IntKind.i64.wrap (h - 1)=h - 1:=zC (by omega)
  simp only[k1]
  have k2:0 < i→(IntKind.i64.wrap ((i:Int) - 1)).toNat=i - 1:=fun h=>by rw[zC (by omega)];omega
  have k3:0 < i→IntKind.i64.wrap ((i:Int) - 1)=i - 1:=fun h=>zC (by omega)
  refine⟨fun g3=>⟨g3,fun _ _ _=>⟨by decide +kernel,fun g4 g5=>⟨⟨g4,g5⟩,by rw[k3 g5];omega⟩,fun g4 g5=>⟨⟨g4,g5⟩,by rw[k2 g5];omega⟩,fun _=>⟨fun g4=>⟨g4,fun g5=>⟨g4,g5⟩⟩,fun _ _=>by omega,?_⟩⟩⟩,?_⟩
  ·rw[zBC g3,upB] at g2
   have k4:0 < i→pvY es i=(nth (nth es (i - 1)).A 0).I:=fun h=>by rw[pvY,if_neg (by omega)]
   refine⟨fun g4=>?_,fun g4 g5 g6=>?_⟩
   ·rw[h7,g2]
    rcases g4 with (g4 | ⟨g4,g5⟩) | g4
    ·simp[g4]
    ·rw[k2 g4] at g5
     have:¬pvY es i < (nth (nth es i).A 0).I:=by rw[k4 g4];omega
     simp[this]
    ·simp[g4]
   ·rw[zC (by omega)]
    have k5:pvY es i < (nth (nth es i).A 0).I:=by
     by_cases h0:0 < i
     ·have:=g5 h0
      rw[k2 h0] at this
      rw[k4 h0];exact this
     ·have:pvY es i=-1:=by rw[pvY,if_pos (by omega)]
      rw[this]
      simp[inB] at g4;omega
    refine⟨⟨i+1,by omega,by omega,?_⟩,by omega⟩
    have k6:pvY es (i+1)=(nth (nth es i).A 0).I:=by simp[pvY]
    rw[g2,g4,g6,k6]
    simp[k5]
  ·intro g3
   rw[List.drop_eq_nil_of_le g3,upB] at g2
   have k5:IntKind.i64.wrap (n - 1)=n - 1:=zC (by simp[inB] at h2;omega)
   rw[h7,g2,k5]
   refine⟨fun g4 _=>?_,fun g4=>?_⟩
   ·subst g4
    rw[Bool.eq_iff_iff];simp[zMD]
   ·subst g4
    simp[zMD]
end
section
variable [ze]
def zAk:zP:=yA
theorem zIj:yQ Try.prog 21 zAk:=by
 refine zf [0,1,2,3] [.tmp 2] (zA (cs:=[]) zKd (zA (cs:=[]) zGN (zA (cs:=[]) zAJ (zG (zD []))))) zb Try.func21 rfl (by decide) rfl (by decide) rfl ?_
 intro ps hT hpre W hW
 simp only[zAk,TyA,Ty,Tys] at hT hpre
 simp only[yA,TyA,Ty,Tys] at hT
 obtain⟨_,_,rfl,⟨_,rfl,_,_,rfl,⟨n,rfl,hn⟩,_,_,rfl,⟨f,rfl,hf⟩,_,_,rfl,⟨u,rfl⟩,_,_,rfl,⟨w,rfl,hw⟩,_,_,rfl,⟨h,rfl,hh⟩,_,_,rfl,⟨es,rfl,hes,tes⟩,rfl⟩,rfl⟩:=hT
 refine hW.vc [(6,[],tkN [0,1,2,3,4,5,6,7,8] (alS 9 (tkN [10,11,12,13,14,15,16,17,18,19] (alS 20 (tkN [21,22,23,24,25,26,27,28,29,30,31,32,33,34,35,36,37,38,39,40,41,42] .done)))))] _ _ ?_
 simp[-List.getD_eq_getElem?_getD,zAk,zY,zAO,zAm,yA,zJ,ya,zJ]
 intro h1
 refine⟨zLx,fun h2 h3 h4=>?_⟩
 obtain⟨h6,h7⟩:=zLy (u:=u) (f:=f) h2 h3 h4
 refine hW.loopS _ _ _ [.sl 3 .dp (.int .i64)] (fun ys=>∃i:Nat,ys=[.int .i64 i]∧i≤es.length∧upB w h (-1) es=upB w h (pvY es i) (es.drop i)) (fun ys=>es.length - (nth ys 0).I.toNat) ?_ ?_
 ·simp[-List.getD_eq_getElem?_getD,zAk,zY,zAO,zAm,yA,zJ,ya]
  exact⟨0,rfl,by simp,by simp[pvY]⟩
 ·rintro ys ⟨i,rfl,g1,g2⟩
  refine hW.vc [(6,[],tkN [0,1,2,3,4,5,6,7,8] (alS 9 (tkN [10,11,12,13,14,15,16,17,18,19] (alS 20 (tkN [21,22,23,24,25,26,27,28,29,30,31,32,33,34,35,36,37,38,39,40,41,42] .done)))))] _ _ ?_
  simp[-List.getD_eq_getElem?_getD,zAk,zY,zAO,zAm,yA,zJ,ya,zJ]
  have k1:IntKind.i64.wrap (h - 1)=h - 1:=zC (by omega)
  simp only[k1]
  have k2:0 < i→(IntKind.i64.wrap ((i:Int) - 1)).toNat=i - 1:=fun h=>by rw[zC (by omega)];omega
  have k3:0 < i→IntKind.i64.wrap ((i:Int) - 1)=i - 1:=fun h=>zC (by omega)
  refine fun _=>⟨fun g3=>⟨by decide +kernel,g3,fun _=>⟨fun g4=>⟨g4,g3⟩,fun _=>⟨fun _=>by omega,fun g4 g5 g6=>⟨⟨⟨g4,g5⟩,g6⟩,by rw[k3 g6];omega⟩,
   fun g4 g5 g6=>⟨⟨⟨g4,g5⟩,g6⟩,by rw[k2 g6];omega⟩,fun _=>⟨fun g4 g5 g6=>⟨⟨⟨g4,g5⟩,g6⟩,g3⟩,fun _=>⟨fun g4 g5=>⟨⟨g4,g5⟩,fun g6=>⟨⟨g4,g5⟩,g6⟩⟩,?_⟩⟩⟩⟩⟩,?_⟩
  ·rw[zBC g3,upB] at g2
   refine⟨fun g4=>?_,fun g4 g6 g5=>?_⟩
   ·rw[h7,g2]
    rcases g4 with (g4 | g4) | ⟨g4,g5⟩
    ·simp[g4]
    ·simp[g4]
    ·rw[k2 g4] at g5
     have:¬pvY es i < (nth (nth es i).A 0).I:=by rw[zMU g4];omega
     simp[this]
   ·rw[zC (by omega)]
    have k5:=zSk g4 fun h0=>by have:=g5 h0;rw[k2 h0] at this;exact this
    refine⟨⟨i+1,by omega,by omega,?_⟩,by omega⟩
    rw[g2,g4,g6,zN9]
    simp[k5]
  ·intro g3
   rw[List.drop_eq_nil_of_le g3,upB] at g2
   rw[h7,g2]
   refine⟨fun g4 _=>?_,fun g4=>?_⟩
   ·subst g4
    rw[Bool.eq_iff_iff];simp[zMD]
   ·subst g4
    rw[Bool.eq_iff_iff]
    simp[zMD,inB] at h2 ⊢
    omega
theorem zJr(es:List PV):eqL zEU es es=true:=zKr zJs
theorem zNG(v:List PV):zQV v v=true:=by simp[zQV,zJr]
def zAu(i:Nat):List PV→List PV
 | []=>[]
 | e :: es=>.agg [.int .i64 i,.str e.S] :: zAu (i+1) es
theorem zEy:∀(es:List PV) (i:Nat),(zAu i es).length=es.length
 | [],_=>rfl
 | e :: es,i=>by simp[zAu,zEy es]
theorem zGY(x:PV):∀(es:List PV) (i:Nat),zAu i (es++[x])=zAu i es++[.agg [.int .i64 (i+es.length:Nat),.str x.S]]
 | [],i=>by simp[zAu]
 | e :: es,i=>by simp[zAu,zGY x es];omega
def yq:zP:=⟨[(.rd,.int .i64),(.rd,.int .i64),(.rd,.int .i64),(.rd,.list .str)],[.agg [.int .i64,.int .i64,.bool,.int .i64,.int .i64,.list (.agg [.int .i64,.str])]],true,fun ps=>(nth ps 3).L.length≤1048576,fun ps=>[.agg [.int .i64 (nth ps 0).I,.int .i64 0,.bool true,.int .i64 (nth ps 1).I,.int .i64 (nth ps 2).I,.list (zAu 0 (nth ps 3).L)]],fun _=>[]⟩
def zCH:zP:={ yq with pre:=fun ps=>(nth ps 3).L.length≤1048576∧((nth ps 3).L.length:Int)=(nth ps 2).I }
theorem zMx:yQ Try.prog 16 zCH:=by
 refine zf [0,1,2,3,8,9,10] [.cell 8 26] (zG (zD [])) zb Try.func16 rfl (by decide) rfl (by decide) rfl ?_
 intro ps hT hpre W hW
 simp only[zCH,TyA,Ty,Tys] at hT hpre
 simp only[yq,TyA,Ty,Tys] at hT hpre
 obtain⟨_,_,rfl,⟨n,rfl,hn⟩,_,_,rfl,⟨w,rfl,hw⟩,_,_,rfl,⟨h,rfl,hh⟩,_,_,rfl,⟨es,rfl,hes,tes⟩,rfl⟩:=hT
 simp only[zF,zK,zCk,zAS] at hpre
 obtain⟨hpre,rfl⟩:=hpre
 refine hW.vc [(5,[9,11],tkN [0,1,2,3,4,5,6,7] (alN [8,9] (tkN [10] (alS 11 .done))))] _ _ ?_
 simp[-List.getD_eq_getElem?_getD,zCH,yq,yq]
 refine hW.loopS _ _ _ [.bx 9 [.int .i64,.int .i64,.bool,.int .i64,.int .i64,.list (.agg [.int .i64,.str])],.sl 10 .dp (.int .i64)] (fun ys=>∃(i:Nat),ys=[.agg [.int .i64 n,.int .i64 0,.bool true,.int .i64 w,.int .i64 es.length,.list (zAu 0 (es.take i))],.int .i64 i]∧i≤es.length) (fun ys=>es.length - (nth ys 1).I.toNat) ?_ ?_
 ·simp[-List.getD_eq_getElem?_getD,zCH,yq,yq]
  exact⟨0,⟨by simp[zAu],rfl⟩,by simp⟩
 ·rintro ys ⟨i,rfl,g1⟩
  refine hW.vc [(5,[9,11],tkN [0,1,2,3,4,5,6,7] (alN [8,9] (tkN [10] (alS 11 .done))))] _ _ ?_
  simp[-List.getD_eq_getElem?_getD,zCH,yq,yq]
  refine⟨fun g2=>⟨by decide +kernel,g2,fun _=>⟨by rw[zEy,List.length_take];omega,fun _=>⟨⟨i+1,⟨?_,by rw[zC (by omega)];omega⟩,by omega⟩,by rw[zC (by omega)];omega⟩⟩⟩,fun g2=>by rw[List.take_of_length_le g2]⟩
  rw[zAe g2,zGY,List.length_take,Nat.min_eq_left g1,Nat.zero_add]
structure VW where
 n:Int
 f:Int
 u:Bool
 w:Int
 h:Int
 r:List PV
def VW.pv(v:VW):PV:=.agg [.int .i64 v.n,.int .i64 v.f,.bool v.u,.int .i64 v.w,.int .i64 v.h,.list v.r]
def VW.no:VW:=⟨0,0,false,0,0,[]⟩
def zFG(n w h:Int)(es:List PV):VW × Int:=
 if 4096 < (es.length:Int) then (VW.no,2) else if inB n 0 60=false∨zBo w h=false then (VW.no,4) else if zBz es w h=false then (VW.no,1) else (⟨n,0,true,w,h,zAu 0 es⟩,0)
theorem zEp{es:List PV}{w h:Int}(hl:zBz es w h=true):(es.length:Int)=h:=by simp[zBz] at hl;exact hl.1
theorem zGE{a b:Bool}(ha:a=true)(hb:b=true):¬(a=false∨b=false):=by subst ha;subst hb;simp
def zA3:zP:=⟨[(.rd,.int .i64),(.rd,.int .i64),(.rd,.int .i64),(.rd,.list .str)],[.agg [.int .i64,.int .i64,.bool,.int .i64,.int .i64,.list (.agg [.int .i64,.str])],.int .i64],true,fun _=>True,
 fun ps=>[(zFG (nth ps 0).I (nth ps 1).I (nth ps 2).I (nth ps 3).L).1.pv,.int .i64 (zFG (nth ps 0).I (nth ps 1).I (nth ps 2).I (nth ps 3).L).2],fun _=>[]⟩
def zCf:zP:=zA3
theorem zJe:yQ Try.prog 5 zCf:=by
 refine zf [0,1,2,3,8,9] [.cell 8 26,.tmp 9] (zA (cs:=[]) zMx (zA (cs:=[]) zIm (zA (cs:=[]) zGN (zA (cs:=[]) zAJ (zG (zD [])))))) zb Try.func5 rfl (by decide) rfl (by decide) rfl ?_
 intro ps hT hpre W hW
 simp only[zCf,TyA,Ty,Tys] at hT hpre
 simp only[zA3,TyA,Ty,Tys] at hT hpre
 obtain⟨_,_,rfl,⟨n,rfl,hn⟩,_,_,rfl,⟨w,rfl,hw⟩,_,_,rfl,⟨h,rfl,hh⟩,_,_,rfl,⟨es,rfl,hes,tes⟩,rfl⟩:=hT
 refine hW.vc [] _ _ ?_
 simp[-List.getD_eq_getElem?_getD,zCf,zY,zAO,zAl,zCH,zA3,zJ,ya,yq,zJ,zA3,yq,VW.pv]
 refine fun _=>⟨fun h1=>?_,fun h1=>⟨fun h2=>?_,fun h2 h3=>⟨zHc h3,fun h4=>?_,fun h4=>⟨⟨by omega,zEp h4⟩,?_⟩⟩⟩⟩
 ·rw[zFG,if_pos h1];simp[VW.no]
 ·rw[zFG,if_neg (Int.not_lt.2 h1),if_pos h2];simp[VW.no]
 ·rw[zFG,if_neg (Int.not_lt.2 h1),if_neg (zGE h2 h3),if_pos h4];simp[VW.no]
 ·rw[zFG,if_neg (Int.not_lt.2 h1),if_neg (zGE h2 h3),if_neg (by simp[h4])];simp
end
section
variable [ze]
theorem zLw{n:Int}(h:0≤n∧n≤255):IntKind.u8.wrap n=n:=by
 simp[IntKind.wrap,IntKind.signed,IntKind.bits];omega
end
section
variable [ze]
def yW(i:Nat):List PV→List PV→List PV
 | x :: xs,y :: ys=>cond (x.S == y.S) (yW (i+1) xs ys) (.agg [.int .i64 i,.str y.S] :: yW (i+1) xs ys)
 | _,_=>[]
theorem zE3:∀(xs ys:List PV) (i:Nat),(yW i xs ys).length≤ys.length
 | [],ys,i=>by simp[yW]
 | x :: xs,[],i=>by simp[yW]
 | x :: xs,y :: ys,i=>by
  have:=zE3 xs ys (i+1)
  simp only[yW]
  cases x.S == y.S
  ·simp;omega
  ·simp;omega
theorem zDz:∀(xs ys:List PV) (i k:Nat),k < xs.length→k < ys.length→yW i (xs.take (k+1)) (ys.take (k+1))=yW i (xs.take k) (ys.take k)++(cond ((nth xs k).S == (nth ys k).S) [] [.agg [.int .i64 (i+k:Nat),.str (nth ys k).S]])
 | [],_,_,_,h,_=>by simp at h
 | _ :: _,[],_,_,_,h=>by simp at h
 | x :: xs,y :: ys,i,0,_,_=>by
  simp only[List.take_succ_cons,List.take_zero,yW,zF,List.nil_append,Nat.add_zero]
 | x :: xs,y :: ys,i,k+1,h1,h2=>by
  have:=zDz xs ys (i+1) k (by simpa using h1) (by simpa using h2)
  simp only[List.take_succ_cons,yW,zK] at this ⊢
  rw[this,show i+1+k=i+(k+1) by omega]
  cases x.S == y.S
  ·rfl
  ·rfl
theorem zNQ{xs ys:List PV}{i k:Nat}(h1:k < xs.length)(h2:k < ys.length)(h:(nth xs k).S=(nth ys k).S):yW i (xs.take (k+1)) (ys.take (k+1))=yW i (xs.take k) (ys.take k):=by
 rw[zDz _ _ _ _ h1 h2,h,beq_self_eq_true,cond_true,List.append_nil]
theorem zNP{xs ys:List PV}{k:Nat}(h1:k < xs.length)(h2:k < ys.length)(h:¬(nth xs k).S=(nth ys k).S):yW 0 (xs.take (k+1)) (ys.take (k+1))=yW 0 (xs.take k) (ys.take k)++[.agg [.int .i64 k,.str (nth ys k).S]]:=by
 rw[zDz _ _ _ _ h1 h2,beq_false_of_ne h,cond_false,Nat.zero_add]
def zDj(f n w h:Int)(os es:List PV):VW × Int:=
 if 4096 < (os.length:Int)∨4096 < (es.length:Int) then (VW.no,2) else if (inB n 0 60=false∨zBo w h=false)∨inB f 0 (n - 1)=false then (VW.no,4) else if zBz os w h=false∨zBz es w h=false then (VW.no,1) else (⟨n,f,false,w,h,yW 0 os es⟩,0)
theorem zS8{f n w h:Int}{os es:List PV}(h1:4096 < (os.length:Int)∨4096 < (es.length:Int)):zDj f n w h os es=(VW.no,2):=if_pos h1
theorem zS7{f n w h:Int}{os es:List PV}(h1:(os.length:Int)≤4096)(h2:(es.length:Int)≤4096)(h3:(inB n 0 60=false∨zBo w h=false)∨inB f 0 (n - 1)=false):zDj f n w h os es=(VW.no,4):=by
 rw[zDj,if_neg (by omega),if_pos h3]
theorem zS6{f n w h:Int}{os es:List PV}(h1:(os.length:Int)≤4096)(h2:(es.length:Int)≤4096)(h3:inB n 0 60=true)(h4:zBo w h=true)(h5:inB f 0 (n - 1)=true)(h6:zBz os w h=false∨zBz es w h=false):zDj f n w h os es=(VW.no,1):=by
 rw[zDj,if_neg (by omega),if_neg (by simp[h3,h4,h5]),if_pos h6]
theorem zPb{f n w h:Int}{os es:List PV}(h1:(os.length:Int)≤4096)(h2:(es.length:Int)≤4096)(h3:inB n 0 60=true)(h4:zBo w h=true)(h5:inB f 0 (n - 1)=true)(h6:zBz os w h=true)(h7:zBz es w h=true):zDj f n w h os es=(⟨n,f,false,w,h,yW 0 os es⟩,0):=by
 rw[zDj,if_neg (by omega),if_neg (by simp[h3,h4,h5]),if_neg (by simp[h6,h7])]
def ym:zP:=⟨[(.rd,.int .i64),(.rd,.int .i64),(.rd,.int .i64),(.rd,.int .i64),(.rd,.list .str),(.rd,.list .str)],[.agg [.int .i64,.int .i64,.bool,.int .i64,.int .i64,.list (.agg [.int .i64,.str])],.int .i64],true,fun _=>True,
 fun ps=>[(zDj (nth ps 0).I (nth ps 1).I (nth ps 2).I (nth ps 3).I (nth ps 4).L (nth ps 5).L).1.pv,.int .i64 (zDj (nth ps 0).I (nth ps 1).I (nth ps 2).I (nth ps 3).I (nth ps 4).L (nth ps 5).L).2],fun _=>[]⟩
def zA2:zP:=ym
theorem zJf:yQ Try.prog 7 zA2:=by
 refine zf [0,1,2,3,4,5,12,13,14,15] [.cell 12 26,.tmp 13] (zA (cs:=[]) zIm (zA (cs:=[]) zGN (zA (cs:=[]) zAJ (zG (zD []))))) zb Try.func7 rfl (by decide) rfl (by decide) rfl ?_
 intro ps hT hpre W hW
 simp only[zA2,TyA,Ty,Tys] at hT hpre
 simp only[ym,TyA,Ty,Tys] at hT hpre
 obtain⟨_,_,rfl,⟨f,rfl,hf⟩,_,_,rfl,⟨n,rfl,hn⟩,_,_,rfl,⟨w,rfl,hw⟩,_,_,rfl,⟨h,rfl,hh⟩,_,_,rfl,⟨os,rfl,hos,tos⟩,_,_,rfl,⟨es,rfl,hes,tes⟩,rfl⟩:=hT
 refine hW.vc [(11,[],tkN [0,1,2,3,4,5,6,7,8] .done),(12,[9,11],tkN [0,1,2,3,4,5,6,7] (alN [8,9] (tkN [10] (alS 11 .done))))] _ _ ?_
 simp[-List.getD_eq_getElem?_getD,zA2,zY,zAO,zAl,ym,zJ,ya,zJ,ym,VW.pv]
 have hfn:inB n 0 60=true→(inB f 0 60=true∧f < n↔inB f 0 (n - 1)=true):=by intro h;simp[inB] at h ⊢;omega
 refine fun _ _=>⟨fun h1=>by rw[zS8 h1];simp[VW.no],fun h1 h2=>⟨fun h3=>?_,fun g1 h3 g2 h4=>?_⟩⟩
 ·rw[zS7 h1 h2 (by
   rcases h3 with ((h3 | h3) | h3) | h3
   ·by_cases h0:inB n 0 60=true
    ·exact .inr (by cases h5:inB f 0 (n - 1) with | false=>rfl | true=>have:=((hfn h0).2 h5).1;rw[h3] at this;cases this)
    ·exact .inl (.inl (by simpa using h0))
   ·exact .inl (.inl h3)
   ·by_cases h0:inB n 0 60=true
    ·exact .inr (by cases h5:inB f 0 (n - 1) with | false=>rfl | true=>have:=((hfn h0).2 h5).2;omega)
    ·exact .inl (.inl (by simpa using h0))
   ·exact .inl (.inr h3))];simp[VW.no]
 have h5:=(hfn h3).1 ⟨g1,g2⟩
 refine⟨zHc h4,fun _=>zHc h4,fun h6=>?_,fun h6 h7=>?_⟩
 ·rw[zS6 h1 h2 h3 h4 h5 h6];simp[VW.no]
 have hd:=zPb h1 h2 h3 h4 h5 h6 h7
 have hl6:=zEp h6
 have hl7:=zEp h7
 refine hW.loopS _ _ _ [.bx 14 [.int .i64,.int .i64,.bool,.int .i64,.int .i64,.list (.agg [.int .i64,.str])],.sl 15 .dp (.int .i64)] (fun ys=>∃(i:Nat),ys=[.agg [.int .i64 n,.int .i64 f,.bool false,.int .i64 w,.int .i64 h,.list (yW 0 (os.take i) (es.take i))],.int .i64 i]∧i≤es.length) (fun ys=>es.length - (nth ys 1).I.toNat) ?_ ?_
 ·simp[-List.getD_eq_getElem?_getD,zA2,zY,zAO,zAl,ym,zJ,ya]
  exact⟨0,⟨by simp[yW],rfl⟩,by simp⟩
 ·rintro ys ⟨i,rfl,k1⟩
  refine hW.vc [(11,[],tkN [0,1,2,3,4,5,6,7,8] .done),(12,[9,11],tkN [0,1,2,3,4,5,6,7] (alN [8,9] (tkN [10] (alS 11 .done))))] _ _ ?_
  simp[-List.getD_eq_getElem?_getD,zA2,zY,zAO,zAl,ym,zJ,ya,ym,VW.pv]
  have hdl:=zE3 (os.take i) (es.take i) 0
  rw[List.length_take] at hdl
  rw[zC (n:=(i:Int)+1) (by omega)]
  refine⟨fun g2=>⟨by decide +kernel,by omega,fun _=>⟨by omega,fun _=>⟨fun g3=>⟨by decide +kernel,by omega,fun _=>⟨by omega,fun _=>⟨⟨i+1,⟨?_,by omega⟩,by omega⟩,by omega⟩⟩⟩,fun g3=>⟨⟨i+1,⟨?_,by omega⟩,by omega⟩,by omega⟩⟩⟩⟩,fun g2=>?_⟩
  ·rw[zNP (by omega) (by omega) g3]
  ·rw[zNQ (by omega) (by omega) g3]
  ·rw[hd,List.take_of_length_le (by omega),List.take_of_length_le (by omega)];simp
end
end Go.Proofs.Ytdmbfkooebldcaa
