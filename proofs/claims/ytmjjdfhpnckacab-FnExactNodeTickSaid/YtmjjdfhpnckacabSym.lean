/-
  The symbolic side of a verification-condition generator over Go.Code: pure values, symbolic values, heaplets, and what one operation makes of a symbolic state.
  Conditions: none; definitions alone.
-/
import Derived.Calls
import Derived.Tactics
import Derived.Below
import Derived.KernelRfl
import Derived.Laws.Strings
import Derived.Laws.IdiomStrings
import Derived.Laws.AppendOwn
namespace Go.Proofs.Ytmjjdfhpnckacab

/-- Types of pure values. -/
inductive PTy where
  | int (k : IntKind) | bool | str | list (t : PTy) | agg (ts : List PTy) | box (ts : List PTy) | abx (t : PTy) | fn (f : Nat) (ts : List PTy) | opq
deriving Inhabited

/-- Pure values: trees. -/
inductive PV where
  | int (k : IntKind) (n : Int) | bool (b : Bool) | str (l : List UInt8) | list (es : List PV) | agg (es : List PV)
deriving Inhabited

def PV.I : PV → Int | .int _ n => n | _ => 0
def PV.B : PV → Bool | .bool n => n | _ => false
def PV.S : PV → List UInt8 | .str n => n | _ => []
def PV.L : PV → List PV | .list n => n | _ => []
def PV.A : PV → List PV | .agg n => n | _ => []
def PV.d : PV := .bool false
def PV.at (p : PV) (i : Nat) : PV := p.A.getD i PV.d
def PV.leaves : PV → List PV | .agg qs => qs | p => [p]
def PTy.leaves : PTy → List PTy | .agg ts => ts | t => [t]
def PTy.wd (t : PTy) : Nat := t.leaves.length

def LIM : Nat := 140737488355328

def inR (k : IntKind) (n : Int) : Prop := k.min ≤ n ∧ n ≤ k.max
instance (k : IntKind) (n : Int) : Decidable (inR k n) := by unfold inR; infer_instance

/-- Symbolic values: scalars, slice headers and pointers by handle. -/
inductive SV where
  | int (k : IntKind) (n : Int) | bool (b : Bool) | str (l : List UInt8)
  | sl (h : Nat) | ptr (h off : Nat) | elp (h i wd off : Nat)
  | agg (xs : List SV) | tup (xs : List SV) | fn (f : Nat) (xs : List SV) | nils | nilp
deriving Inhabited

/-- How an array is held: read only (struck when one of the roots is changed); its block owned, what lies behind shared; all owned; owned behind from an element on. -/
inductive Own where | vw (rs : List Nat) | sh | dp | cs (k : Nat)

/-- Where a view comes from: a leaf of an element, a part of the elements. -/
inductive Pth where | no | el (r i j : Nat) | sub (r lo : Nat)

/-- What a handle stands for. -/
inductive HL where
  | box (own : Bool) (t : TypeId) (cells : List SV)
  | arr (o : Own) (T : PTy) (es : List PV) (p : Pth)
  | abx (own : Bool) (T : PTy) (es : List PV)
  | bld (T e : Nat) (l : List UInt8)
  | dead

abbrev Hp := List (Nat × HL)

structure St where
  Lp : List (Nat × SV)
  Lt : List (Nat × Bool × SV)
  A : Hp
  n : Nat

/-- What is known of a type of the table. -/
structure TI where
  agg : Bool
  leaves : List PTy
  el : Nat
  flds : List (Nat × Nat)
  bytes : Nat
  d : TypeDesc

def TI.sz (t : TI) : Nat := t.leaves.length
def TI.pty (t : TI) : PTy := if t.agg then .agg t.leaves else t.leaves.headD .opq

/-- What a call may do with an argument: read it; change a slice's cells; change what lies behind a pointer; keep it. -/
inductive Md where | rd | mt | bx | ow

/-- A function's contract: its arguments, its results, whether these are new memory, what it asks, what it gives, what it leaves in the changed arguments. -/
structure FSpec where
  args : List (Md × PTy)
  ret : List PTy
  fresh : Bool
  pre : List PV → Prop
  res : List PV → List PV
  out : List PV → List PV

structure Env where
  ty : List (Nat × TI)
  fn : List ((Nat × List Nat) × FSpec)

def lk {α : Type} : List (Nat × α) → Nat → Option α
  | [], _ => none
  | (k, v) :: r, i => if k = i then some v else lk r i

def set1 {α : Type} : List (Nat × α) → Nat → α → List (Nat × α)
  | [], i, x => [(i, x)]
  | (k, v) :: r, i, x => if k = i then (k, x) :: r else (k, v) :: set1 r i x

def memB : List Nat → Nat → Bool
  | [], _ => false
  | x :: r, i => if x = i then true else memB r i
def anyB (hs : List Nat) : List Nat → Bool
  | [] => false
  | r :: rs => if memB hs r then true else anyB hs rs

/-- Views of some handles die. -/
def kill (hs : List Nat) : HL → HL
  | .arr (.vw rs) T es p => if anyB hs rs then .dead else .arr (.vw rs) T es p
  | x => x

/-- Some handles die with their views. -/
def strike (hs : List Nat) : Hp → Hp
  | [] => []
  | (k, x) :: A => (k, if memB hs k then .dead else kill hs x) :: strike hs A

/-- What was owned is fixed. -/
def stillH : HL → HL
  | .arr .dp T es _ => .arr (.vw []) T es .no
  | .arr .sh T es _ => .arr (.vw []) T es .no
  | y => y
def unpath (hs : List Nat) : HL → HL
  | .arr (.vw rs) T es (.el r i j) => if memB hs r then .arr (.vw rs) T es .no else .arr (.vw rs) T es (.el r i j)
  | .arr (.vw rs) T es (.sub r lo) => if memB hs r then .arr (.vw rs) T es .no else .arr (.vw rs) T es (.sub r lo)
  | x => x
/-- What is owned becomes fixed; the paths into it are forgotten. -/
def still (hs : List Nat) : Hp → Hp
  | [] => []
  | (k, x) :: A => (k, unpath hs (if memB hs k then stillH x else x)) :: still hs A

/-- A part of an array takes its place. -/
def prom (A : Hp) (h : Nat) : Hp :=
  match lk A h with
  | some (.arr (.vw _) T es (.sub r _)) => (match lk A r with
    | some (.arr .dp _ _ _) => set1 (strike [r] A) h (.arr .dp T es .no)
    | some (.arr .sh _ _ _) => set1 (strike [r] A) h (.arr .sh T es .no)
    | _ => A)
  | _ => A
def proms (A : Hp) : List Nat → Hp
  | [] => A
  | h :: r => proms (prom A h) r

def dpB (A : Hp) (h : Nat) : Bool := match lk A h with | some (.arr .dp _ _ _) => true | _ => false
def dpAll (A : Hp) : List Nat → Bool
  | [] => true
  | h :: r => dpB A h && dpAll A r
def ndB : List Nat → Bool
  | [] => true
  | h :: r => !memB r h && ndB r
def isNil {α : Type} : List α → Bool | [] => true | _ => false
/-- What may be shared: fixed, or owned and fixed from now on. -/
def shOk (A : Hp) : List Nat → Prop
  | [] => True
  | h :: r => (match lk A h with | some (.arr .dp _ _ _) => True | some (.arr (.vw []) _ _ _) => True | _ => False) ∧ shOk A r

/-- What becomes of the heap when the lists of some handles go into an array, and how well that owns them. -/
def takeIn (o : Own) (A : Hp) (hs : List Nat) : Own × Hp :=
  if isNil hs then (o, A) else
    match o with
    | .dp => if dpAll (proms A hs) hs && ndB hs then (.dp, strike hs (proms A hs)) else (.sh, still hs (proms A hs))
    | o => (o, still hs (proms A hs))
def takeOk (o : Own) (A : Hp) (hs : List Nat) : Prop :=
  if isNil hs then True else
    match o with
    | .dp => if dpAll (proms A hs) hs && ndB hs then True else shOk (proms A hs) hs
    | _ => shOk (proms A hs) hs

def St.slot (S : St) (t : Nat) : Option (Bool × SV) :=
  match lk S.Lt t with
  | some x => some x
  | none => match lk S.Lp t with | some v => some (true, v) | none => none

def ofConst1 : Value → Option SV
  | .int k n => if inR k n then some (.int k n) else none
  | .bool b => some (.bool b)
  | .string s => if s.data.toList.length ≤ LIM then some (.str s.data.toList) else none
  | .slice none 0 0 => some .nils
  | .pointer none => some .nilp
  | _ => none

def ofConsts : List Value → Option (List SV)
  | [] => some []
  | v :: r => match ofConst1 v, ofConsts r with | some x, some xs => some (x :: xs) | _, _ => none

def ofConst : Value → Option SV
  | .agg cs => match ofConsts cs.toList with | some xs => some (.agg xs) | none => none
  | v => ofConst1 v

def St.ev (S : St) : Operand → Option (Bool × SV)
  | .tmp t => S.slot t
  | .const v => match ofConst v with | some x => some (true, x) | none => none
  | .func f => some (true, .fn f [])
  | _ => none

def SV.cells : SV → List SV | .agg xs => xs | x => [x]
def SV.ofCells : SV → List SV → SV | .agg _, xs => .agg xs | _, xs => xs.headD .nilp

def SV.leafB : SV → Bool | .agg _ => false | .tup _ => false | _ => true
def leafAll : List SV → Bool
  | [] => true
  | x :: xs => x.leafB && leafAll xs

/-- nil slices become empty handles. -/
def fixL (n : Nat) : List PTy → List SV → List SV × Hp × Nat
  | .list t :: ts, .nils :: xs => ((.sl n :: (fixL (n + 1) ts xs).1), ((fixL (n + 1) ts xs).2.1 ++ [(n, .arr .dp t [] .no)]), (fixL (n + 1) ts xs).2.2)
  | _ :: ts, x :: xs => (x :: (fixL n ts xs).1, (fixL n ts xs).2.1, (fixL n ts xs).2.2)
  | _, xs => (xs, [], n)

def zeroSV : PTy → SV
  | .int k => .int k 0 | .bool => .bool false | .str => .str [] | .list _ => .nils | _ => .nilp
def zeroSVs : List PTy → List SV
  | [] => []
  | t :: ts => zeroSV t :: zeroSVs ts

def zeroLf : PTy → PV
  | .int k => .int k 0 | .bool => .bool false | .str => .str [] | .list _ => .list [] | _ => PV.d
def zeroLfs : List PTy → List PV
  | [] => []
  | t :: ts => zeroLf t :: zeroLfs ts
def zeroPV : PTy → PV
  | .agg ts => .agg (zeroLfs ts)
  | t => zeroLf t

/-- A symbolic value as a pure value of a type, and what that asks. -/
def resL (A : Hp) : PTy → SV → Option (Prop × PV)
  | .int k, .int k' n => some (k' = k, .int k n)
  | .bool, .bool b => some (True, .bool b)
  | .str, .str l => some (True, .str l)
  | .list T, .sl h => match lk A h with | some (.arr (.cs _) _ _ _) => none | some (.arr _ T' es _) => some (T' = T, .list es) | _ => none
  | .list _, .nils => some (True, .list [])
  | _, _ => none

def resLs (A : Hp) : List PTy → List SV → Option (Prop × List PV)
  | [], [] => some (True, [])
  | t :: ts, x :: xs => match resL A t x, resLs A ts xs with | some (o, p), some (o', ps) => some (o ∧ o', p :: ps) | _, _ => none
  | _, _ => none

/-- of a leaf, an aggregate, a box behind a pointer -/
def resB (A : Hp) : PTy → SV → Option (Prop × PV)
  | .agg ts, .agg xs => match resLs A ts xs with | some (o, ps) => some (o, .agg ps) | none => none
  | .box ts, .ptr h off => match lk A h with | some (.box _ _ cs) => if off + ts.length ≤ cs.length then (match resLs A ts ((cs.drop off).take ts.length) with | some (o, ps) => some (o, .agg ps) | none => none) else none | _ => none
  | .abx T, .ptr h 0 => match lk A h with | some (.abx _ T' es) => some (T' = T, .list es) | _ => none
  | T, x => resL A T x

def resBs (A : Hp) : List PTy → List SV → Option (Prop × List PV)
  | [], [] => some (True, [])
  | t :: ts, x :: xs => match resB A t x, resBs A ts xs with | some (o, p), some (o', ps) => some (o ∧ o', p :: ps) | _, _ => none
  | _, _ => none

def resT (A : Hp) : PTy → SV → Option (Prop × PV)
  | .fn f ts, .fn f' xs => match resBs A ts xs with | some (o, ps) => some (f' = f ∧ o, .agg ps) | none => none
  | T, x => resB A T x

def resTs (A : Hp) : List (Md × PTy) → List SV → Option (Prop × List PV)
  | [], [] => some (True, [])
  | (_, t) :: ts, x :: xs => match resT A t x, resTs A ts xs with | some (o, p), some (o', ps) => some (o ∧ o', p :: ps) | _, _ => none
  | _, _ => none

/-- Pure values as elements of one type. -/
def resEs (A : Hp) (T : PTy) : List SV → Option (Prop × List PV)
  | [] => some (True, [])
  | x :: xs => match resB A T x, resEs A T xs with | some (o, p), some (o', ps) => some (o ∧ o', p :: ps) | _, _ => none

/-- Leaves as symbolic values, over new handles. -/
def introL (o : Own) (q : Nat → Pth) (j n : Nat) : List PTy → List PV → List SV × Hp × Nat
  | .int k :: ts, p :: ps => (.int k p.I :: (introL o q (j + 1) n ts ps).1, (introL o q (j + 1) n ts ps).2.1, (introL o q (j + 1) n ts ps).2.2)
  | .bool :: ts, p :: ps => (.bool p.B :: (introL o q (j + 1) n ts ps).1, (introL o q (j + 1) n ts ps).2.1, (introL o q (j + 1) n ts ps).2.2)
  | .str :: ts, p :: ps => (.str p.S :: (introL o q (j + 1) n ts ps).1, (introL o q (j + 1) n ts ps).2.1, (introL o q (j + 1) n ts ps).2.2)
  | .list t :: ts, p :: ps => (.sl n :: (introL o q (j + 1) (n + 1) ts ps).1, (introL o q (j + 1) (n + 1) ts ps).2.1 ++ [(n, .arr o t p.L (q j))], (introL o q (j + 1) (n + 1) ts ps).2.2)
  | _ :: ts, _ :: ps => (.nilp :: (introL o q (j + 1) n ts ps).1, (introL o q (j + 1) n ts ps).2.1, (introL o q (j + 1) n ts ps).2.2)
  | _, _ => ([], [], n)

def noP : Nat → Pth := fun _ => .no
def elP (r i : Nat) : Nat → Pth := fun j => .el r i j

/-- A pure value of a type as a symbolic value, over new handles. -/
def introV (o : Own) (q : Nat → Pth) (j n : Nat) : PTy → PV → SV × Hp × Nat
  | .agg ts, p => (.agg (introL o q j n ts p.A).1, (introL o q j n ts p.A).2.1, (introL o q j n ts p.A).2.2)
  | T, p => ((introL o q j n [T] [p]).1.headD .nilp, (introL o q j n [T] [p]).2.1, (introL o q j n [T] [p]).2.2)

/-- Several results: one after the other. -/
def introVs (o : Own) (n : Nat) : List PTy → List PV → List SV × Hp × Nat
  | t :: ts, p :: ps => ((introV o noP 0 n t p).1 :: (introVs o (introV o noP 0 n t p).2.2 ts ps).1, (introVs o (introV o noP 0 n t p).2.2 ts ps).2.1 ++ (introV o noP 0 n t p).2.1, (introVs o (introV o noP 0 n t p).2.2 ts ps).2.2)
  | _, _ => ([], [], n)

/-- Several results come as a tuple. -/
def packV : List SV → SV
  | [x] => x
  | xs => .tup xs

def andI (k : IntKind) (a b : Int) : Int := k.wrap (BitVec.ofInt k.bits a &&& BitVec.ofInt k.bits b).toNat
def orI (k : IntKind) (a b : Int) : Int := k.wrap (BitVec.ofInt k.bits a ||| BitVec.ofInt k.bits b).toNat
def xorI (k : IntKind) (a b : Int) : Int := k.wrap (BitVec.ofInt k.bits a ^^^ BitVec.ofInt k.bits b).toNat
def andNotI (k : IntKind) (a b : Int) : Int := k.wrap (BitVec.ofInt k.bits a &&& ~~~BitVec.ofInt k.bits b).toNat
def shlI (k : IntKind) (a b : Int) : Int := k.wrap (a * 2 ^ (min b.toNat k.bits))
def shrI (k : IntKind) (a b : Int) : Int := a.fdiv (2 ^ (min b.toNat k.bits))

def binI (op : BinOp) (k : IntKind) (a : Int) (k' : IntKind) (b : Int) : Option (Prop × SV) :=
  match op with
  | .add => some (k' = k, .int k (k.wrap (a + b)))
  | .sub => some (k' = k, .int k (k.wrap (a - b)))
  | .mul => some (k' = k, .int k (k.wrap (a * b)))
  | .quo => some (k' = k ∧ b ≠ 0, .int k (k.wrap (a.tdiv b)))
  | .rem => some (k' = k ∧ b ≠ 0, .int k (a.tmod b))
  | .and => some (k' = k, .int k (andI k a b))
  | .or => some (k' = k, .int k (orI k a b))
  | .xor => some (k' = k, .int k (xorI k a b))
  | .andNot => some (k' = k, .int k (andNotI k a b))
  | .shl => some (0 ≤ b, .int k (shlI k a b))
  | .shr => some (0 ≤ b, .int k (shrI k a b))
  | .eql => some (k' = k, .bool (a == b))
  | .neq => some (k' = k, .bool (a != b))
  | .lss => some (k' = k, .bool (decide (a < b)))
  | .leq => some (k' = k, .bool (decide (a ≤ b)))
  | .gtr => some (k' = k, .bool (decide (a > b)))
  | .geq => some (k' = k, .bool (decide (a ≥ b)))

def binS (op : BinOp) (a b : List UInt8) : Option (Prop × SV) :=
  match op with
  | .add => some (a.length + b.length ≤ LIM, .str (a ++ b))
  | .eql => some (True, .bool (a == b))
  | .neq => some (True, .bool (a != b))
  | .lss => some (True, .bool (Op.bytesLess a b))
  | .leq => some (True, .bool (Op.bytesLess a b || a == b))
  | .gtr => some (True, .bool (!(Op.bytesLess a b || a == b)))
  | .geq => some (True, .bool (!Op.bytesLess a b))
  | _ => none

def imp (g : Bool) (p : Prop) : Prop := g = true → p

structure RR where
  hy : Prop
  ob : Prop
  sv : SV
  A : Hp
  n : Nat

def evs (S : St) (g : Bool) : List Operand → Option (Prop × List SV)
  | [] => some (True, [])
  | x :: r => match S.ev x, evs S g r with | some (g', v), some (o, vs) => some (imp g (g' = true) ∧ o, v :: vs) | _, _ => none

/-- Which closures are among the arguments. -/
def closes : List SV → List Nat
  | [] => []
  | .fn f _ :: r => f :: closes r
  | _ :: r => closes r

def findFn : List ((Nat × List Nat) × FSpec) → Nat → List Nat → Option FSpec
  | [], _, _ => none
  | ((f, cs), s) :: r, g, ds => if f = g ∧ cs = ds then some s else findFn r g ds

/-- The slices' handles among cells. -/
def slsOf : List SV → List Nat
  | [] => []
  | .sl h :: xs => h :: slsOf xs
  | _ :: xs => slsOf xs
def slsAll : List SV → List Nat
  | [] => []
  | x :: xs => slsOf x.cells ++ slsAll xs

/-- What an argument lends or gives away: boxes and arrays. -/
def argLs (A : Hp) (m : Md) (t : PTy) (x : SV) : List Nat :=
  match m with
  | .rd => []
  | .mt => slsOf x.cells
  | .ow => slsOf x.cells
  | .bx => match x with
    | .ptr h off => (match t with
      | .box ts => h :: (match lk A h with | some (.box _ _ cs) => slsOf ((cs.drop off).take ts.length) | _ => [])
      | _ => [h])
    | _ => []
def argsLs (A : Hp) : List (Md × PTy) → List SV → List Nat
  | (m, t) :: ts, x :: xs => argLs A m t x ++ argsLs A ts xs
  | _, _ => []

/-- The element whose list a view reads. -/
def pathOf (A : Hp) (h : Nat) : Option (Nat × Nat × Nat) := match lk A h with | some (.arr (.vw _) _ _ (.el r i j)) => some (r, i, j) | _ => none

/-- The arrays and boxes behind an argument that is only read. -/
def rdHs1 (A : Hp) (x : SV) : List Nat :=
  match x with
  | .ptr h _ => h :: (match lk A h with | some (.box _ _ cs) => slsOf cs | _ => [])
  | x => slsOf x.cells
def rdHsL (A : Hp) : List SV → List Nat
  | [] => []
  | x :: xs => rdHs1 A x ++ rdHsL A xs
def rdHs (A : Hp) (x : SV) : List Nat :=
  match x with
  | .fn _ xs => rdHsL A xs
  | x => rdHs1 A x
def rdsHs (A : Hp) : List (Md × PTy) → List SV → List Nat
  | (.rd, _) :: ts, x :: xs => rdHs A x ++ rdsHs A ts xs
  | _ :: ts, _ :: xs => rdsHs A ts xs
  | _, _ => []
/-- Nothing of what is lent is read besides. -/
def rdOk (A : Hp) (D : List Nat) : List Nat → Prop
  | [] => True
  | h :: r => (memB D h = false ∧ match lk A h with | some (.arr (.vw rs) _ _ _) => anyB D rs = false | some .dead => False | none => False | _ => True) ∧ rdOk A D r

/-- What is lent is owned. -/
def lendOk (A : Hp) : List (Md × PTy) → List SV → Prop
  | (.mt, .list _) :: ts, x :: xs => dpAll A (slsOf x.cells) = true ∧ lendOk A ts xs
  | (.mt, .agg _) :: ts, x :: xs => dpAll A (slsOf x.cells) = true ∧ lendOk A ts xs
  | (.ow, .list _) :: ts, x :: xs => dpAll A (slsOf x.cells) = true ∧ lendOk A ts xs
  | (.ow, .agg _) :: ts, x :: xs => dpAll A (slsOf x.cells) = true ∧ lendOk A ts xs
  | (.bx, .box l) :: ts, .ptr h off :: xs => (match lk A h with | some (.box true _ cs) => dpAll A (slsOf ((cs.drop off).take l.length)) = true | _ => False) ∧ lendOk A ts xs
  | (.bx, .abx _) :: ts, .ptr h 0 :: xs => (match lk A h with | some (.abx true _ _) => True | _ => False) ∧ lendOk A ts xs
  | (.rd, _) :: ts, _ :: xs => lendOk A ts xs
  | [], [] => True
  | _, _ => False

/-- New contents for the leaves of an argument whose slices' cells were changed. -/
def backL (A : Hp) : List PTy → List SV → List PV → Hp
  | .list T :: ts, .sl h :: xs, p :: ps => backL (set1 A h (.arr .dp T p.L .no)) ts xs ps
  | _ :: ts, _ :: xs, _ :: ps => backL A ts xs ps
  | _, _, _ => A

/-- The lent arguments behind the call; A0 is the heap before. -/
def backs (A0 A : Hp) (n : Nat) : List (Md × PTy) → List SV → List PV → Hp × Nat
  | (.mt, t) :: ts, x :: xs, p :: ps => backs A0 (backL A t.leaves x.cells p.leaves) n ts xs ps
  | (.bx, .box l) :: ts, .ptr h off :: xs, p :: ps => (match lk A0 h with
      | some (.box _ t cs) => backs A0 (set1 ((introL .dp noP 0 n l p.A).2.1 ++ A) h (.box true t (cs.take off ++ (introL .dp noP 0 n l p.A).1 ++ cs.drop (off + l.length)))) (introL .dp noP 0 n l p.A).2.2 ts xs ps
      | _ => (A, n))
  | (.bx, .abx T) :: ts, .ptr h _ :: xs, p :: ps => backs A0 (set1 A h (.abx true T p.L)) n ts xs ps
  | (.rd, _) :: ts, _ :: xs, ps => backs A0 A n ts xs ps
  | (.ow, _) :: ts, _ :: xs, ps => backs A0 A n ts xs ps
  | _, _, _ => (A, n)

/-- The owners of what is only read: results that may share its memory hang on them. -/
def ownersOf (A : Hp) : List Nat → List Nat
  | [] => []
  | h :: r => (match lk A h with | some (.arr (.vw rs) _ _ _) => rs | some (.arr _ _ _ _) => [h] | _ => []) ++ ownersOf A r

/-- Nothing is lent or given away. -/
def allRd : List (Md × PTy) → Bool
  | [] => true
  | (.rd, _) :: ts => allRd ts
  | _ :: _ => false
/-- The only argument that is lent. -/
def soleMt : List (Md × PTy) → List SV → Option (PTy × SV)
  | (.mt, t) :: ts, x :: _ => if allRd ts then some (t, x) else none
  | (.rd, _) :: ts, _ :: xs => soleMt ts xs
  | _, _ => none
def firstP (A : Hp) : List Nat → Option (Nat × Nat)
  | [] => none
  | h :: _ => match pathOf A h with | some (r, i, _) => some (r, i) | none => none
def callRd (S : St) (g : Bool) (s : FSpec) (o : Prop) (ps : List PV) (xs : List SV) : RR :=
  { hy := True
    ob := imp g (o ∧ s.pre ps) ∧ (isNil (introVs (if s.fresh then .dp else .vw (ownersOf S.A (rdsHs S.A s.args xs))) S.n s.ret (s.res ps)).2.1 = false → g = true) ∧ (s.res ps).length = s.ret.length
    sv := packV (introVs (if s.fresh then .dp else .vw (ownersOf S.A (rdsHs S.A s.args xs))) S.n s.ret (s.res ps)).1
    A := (introVs (if s.fresh then .dp else .vw (ownersOf S.A (rdsHs S.A s.args xs))) S.n s.ret (s.res ps)).2.1 ++ S.A
    n := (introVs (if s.fresh then .dp else .vw (ownersOf S.A (rdsHs S.A s.args xs))) S.n s.ret (s.res ps)).2.2 }

/-- The first argument is the list in an element of an owned array. -/
def callPt (S : St) (g : Bool) (s : FSpec) (o : Prop) (ps : List PV) (xs : List SV) : Option RR :=
  match s.args, xs, s.out ps with
  | (.mt, .list _) :: ts, .sl h :: ys, [q] => (match pathOf S.A h with
    | some (r, i, j) => (match lk S.A r with
      | some (.arr .dp (.agg tt) es _) =>
        some { hy := True
               ob := g = true ∧ o ∧ s.pre ps ∧ s.fresh = true ∧ (s.res ps).length = s.ret.length ∧ allRd ts = true ∧ rdOk S.A [r] (rdsHs S.A ts ys)
               sv := packV (introVs .dp S.n s.ret (s.res ps)).1
               A := (introVs .dp S.n s.ret (s.res ps)).2.1 ++ set1 (strike [r] S.A) r (.arr .dp (.agg tt) (es.set i (.agg ((es.getD i PV.d).A.set j q))) .no)
               n := (introVs .dp S.n s.ret (s.res ps)).2.2 }
      | _ => none)
    | none => none)
  | _, _, _ => none

def callOw (S : St) (g : Bool) (s : FSpec) (o : Prop) (ps : List PV) (xs : List SV) (hs : List Nat) (A0 : Hp) (K : Hp × Nat) : RR :=
  { hy := True
    ob := g = true ∧ o ∧ s.pre ps ∧ s.fresh = true ∧ (s.res ps).length = s.ret.length ∧ lendOk A0 s.args xs ∧ ndB hs = true ∧ rdOk A0 hs (rdsHs A0 s.args xs)
    sv := packV (introVs .dp K.2 s.ret (s.res ps)).1
    A := (introVs .dp K.2 s.ret (s.res ps)).2.1 ++ K.1
    n := (introVs .dp K.2 s.ret (s.res ps)).2.2 }
def callOwn (S : St) (g : Bool) (s : FSpec) (o : Prop) (ps : List PV) (xs : List SV) : RR :=
  callOw S g s o ps xs (argsLs S.A s.args xs) (proms S.A (argsLs S.A s.args xs)) (backs (proms S.A (argsLs S.A s.args xs)) (strike (argsLs S.A s.args xs) (proms S.A (argsLs S.A s.args xs))) S.n s.args xs (s.out ps))

def callRes (E : Env) (S : St) (g : Bool) (f : Nat) (caps args : List SV) : Option RR :=
  match findFn E.fn f (closes args) with
  | none => none
  | some s => match resTs S.A s.args (args ++ caps) with
    | none => none
    | some (o, ps) =>
      if allRd s.args then some (callRd S g s o ps (args ++ caps))
      else match soleMt s.args (args ++ caps) with
        | some (t, x) => (match firstP S.A (slsOf x.cells) with
          | some _ => callPt S g s o ps (args ++ caps)
          | none => some (callOwn S g s o ps (args ++ caps)))
        | none => some (callOwn S g s o ps (args ++ caps))

def bytesPV (l : List UInt8) : List PV := l.map fun b => .int .u8 b.toNat
def pvBytes (es : List PV) : List UInt8 := es.map fun p => UInt8.ofNat p.I.toNat

def idxs : List (Nat × Operand) → List Nat
  | [] => []
  | (i, _) :: r => i :: idxs r
def oprs : List (Nat × Operand) → List Operand
  | [] => []
  | (_, x) :: r => x :: oprs r

/-- Parts of a struct laid over its cells. -/
def fillSV (flds : List (Nat × Nat)) (cells : List SV) : List Nat → List SV → Option (List SV)
  | [], [] => some cells
  | i :: is, x :: xs => match flds[i]? with
    | some (off, _) => if off + x.cells.length ≤ cells.length then fillSV flds (cells.take off ++ x.cells ++ cells.drop (off + x.cells.length)) is xs else none
    | none => none
  | _, _ => none

/-- Each part has the size of its field. -/
def partsOk (E : Env) (flds : List (Nat × Nat)) : List Nat → List SV → Prop
  | [], [] => True
  | i :: is, x :: xs => (match flds[i]? with | some (_, t) => (match lk E.ty t with | some ti => x.cells.length = ti.sz | none => False) | none => False) ∧ partsOk E flds is xs
  | _, _ => False

def convRes (E : Env) (S : St) (g g' : Bool) (src dst : TI) (x : SV) : Option RR :=
  match dst.d, src.d, x with
  | .int k, _, .int _ n => some ⟨True, imp g (g' = true), .int k (k.wrap n), S.A, S.n⟩
  | .string, .string, .str l => some ⟨True, imp g (g' = true), .str l, S.A, S.n⟩
  | .string, .slice e, .sl h => match lk S.A h, lk E.ty e with
    | some (.arr (.cs _) _ _ _), _ => none
    | some (.arr _ T es _), some te => (match te.d with
      | .int .u8 => some ⟨True, imp g (g' = true ∧ T = .int .u8), .str (pvBytes es), S.A, S.n⟩
      | _ => none)
    | _, _ => none
  | .slice e, .string, .str l => match lk E.ty e with
    | some te => (match te.d with
      | .int .u8 => some ⟨True, g = true ∧ g' = true, .sl S.n, (S.n, .arr .dp (.int .u8) (bytesPV l) .no) :: S.A, S.n + 1⟩
      | _ => none)
    | none => none
  | _, _, _ => none

/-- What reads a part of an array: the lists in its elements, a part of its elements. -/
def viewE (o : Own) (h : Nat) : Own := match o with | .vw rs => .vw rs | .sh => .vw [] | _ => .vw [h]
def viewA (o : Own) (h : Nat) : Own := match o with | .vw rs => .vw rs | _ => .vw [h]
def pathE (o : Own) (h i : Nat) : Nat → Pth := match o with | .dp => elP h i | _ => noP
def pathA (o : Own) (h lo : Nat) : Pth := match o with | .dp => .sub h lo | .sh => .sub h lo | _ => .no

def sliceRes (E : Env) (S : St) (g : Bool) (o : Prop) (t : Nat) (x : SV) (lo hi : Option Int) : Option RR :=
  match x, lk E.ty t with
  | .str l, some ti =>
    some ⟨True, imp g (o ∧ 0 ≤ lo.getD 0 ∧ lo.getD 0 ≤ hi.getD l.length ∧ hi.getD l.length ≤ l.length ∧ ti.d = .string), .str ((l.drop (lo.getD 0).toNat).take ((hi.getD l.length).toNat - (lo.getD 0).toNat)), S.A, S.n⟩
  | .sl i, some ti => match lk S.A i, lk E.ty ti.el with
    | some (.arr (.cs _) _ _ _), _ => none
    | some (.arr w T es _), some te =>
      some ⟨es.length ≤ LIM, g = true ∧ o ∧ 0 ≤ lo.getD 0 ∧ lo.getD 0 ≤ hi.getD es.length ∧ hi.getD es.length ≤ es.length ∧ ti.d = .slice ti.el ∧ te.sz = T.wd, .sl S.n,
        (S.n, .arr (viewA w i) T ((es.drop (lo.getD 0).toNat).take ((hi.getD es.length).toNat - (lo.getD 0).toNat)) (pathA w i (lo.getD 0).toNat)) :: S.A, S.n + 1⟩
    | _, _ => none
  | _, _ => none

def evO (S : St) (g : Bool) : Option Operand → Option (Prop × Option Int)
  | none => some (True, none)
  | some x => match S.ev x with | some (g', .int _ n) => some (imp g (g' = true), some n) | _ => none

/-- As many leaves from a place on, one by one. -/
def etaL (k : Nat) : List PTy → List PV → List PV
  | [], _ => []
  | _ :: ts, A => A.getD k PV.d :: etaL (k + 1) ts A

/-- Element i with the leaves from off on replaced. -/
def storeEl (T : PTy) (es : List PV) (i off : Nat) (ps : List PV) : List PV :=
  es.set i (match T with
    | .agg ts => .agg (etaL 0 (ts.take off) (es.getD i PV.d).A ++ ps ++ etaL (off + ps.length) (ts.drop (off + ps.length)) (es.getD i PV.d).A)
    | _ => ps.headD PV.d)

/-- Some leaves of element i, as a value of a type. -/
def loadEl (T : PTy) (es : List PV) (i off : Nat) (ti : TI) : PV :=
  match T with
  | .agg _ => if ti.agg then .agg (etaL off ti.leaves (es.getD i PV.d).A) else (es.getD i PV.d).at off
  | _ => es.getD i PV.d

def flatL : PTy → Bool
  | .int _ => true | .bool => true | .str => true | _ => false
def flatLs : List PTy → Bool
  | [] => true
  | t :: ts => flatL t && flatLs ts
def flatB (T : PTy) : Bool := flatLs T.leaves

def leafD : PTy → Bool | .int _ => true | .bool => true | .str => true | .list t => flatB t | _ => false
def leafDs : List PTy → Bool
  | [] => true
  | t :: ts => leafD t && leafDs ts
/-- An element's type: scalars and lists of flat elements. -/
def dataB (T : PTy) : Bool := leafDs T.leaves

def ownO : Own → Prop | .dp => True | .sh => True | _ => False

/-- An array is still held as it was. -/
def sameO : Own → Option HL → Prop
  | .dp, some (.arr .dp _ _ _) => True
  | .sh, some (.arr .sh _ _ _) => True
  | _, _ => False

def isStruct (d : TypeDesc) : Prop := ∃ fs, d = .struct fs

def aggOk (T : PTy) (b : Bool) : Prop := match T with | .agg _ => True | _ => b = false

/-- The leaf types that a value of a type takes inside an element type. -/
def leafAt (T : PTy) (off sz : Nat) : List PTy := (T.leaves.drop off).take sz

/-- The elements that an operand of append or copy gives. -/
def srcOf (A : Hp) (T : PTy) : SV → Option (Prop × List PV)
  | .sl h => match lk A h with | some (.arr (.cs _) _ _ _) => none | some (.arr _ T' es _) => some (T' = T, es) | _ => none
  | .nils => some (True, [])
  | .str l => some (T = .int .u8, bytesPV l)
  | _ => none

/-- How an array's elements are owned behind an append, and the heap then: of flat elements nothing is kept. -/
def joinB (T : PTy) (o : Own) (A : Hp) (x : SV) : Own × Hp :=
  if flatB T then (o, A) else
    match x with
    | .sl h => (match lk A h with
      | some (.arr .dp T' es _) => (match o with | .dp => (.dp, strike [h] A) | o => (o, set1 (strike [h] A) h (.arr .sh T' es .no)))
      | _ => (.sh, A))
    | _ => (o, A)
def joinOk (T : PTy) (A : Hp) (x : SV) : Prop :=
  if flatB T then True else
    match x with
    | .sl h => (match lk A h with | some (.arr .dp _ _ _) => True | some (.arr .sh _ _ _) => True | some (.arr (.vw []) _ _ _) => True | _ => False)
    | _ => True

def appRes (E : Env) (S : St) (g : Bool) (o : Prop) (t : Nat) (s x : SV) : Option RR :=
  match lk E.ty t with
  | none => none
  | some ti => match lk E.ty ti.el with
    | none => none
    | some te => match srcOf S.A te.pty x with
      | none => none
      | some (o', new) => match s with
        | .nils => some ⟨True, g = true ∧ o ∧ o' ∧ new.length * te.bytes ≤ LIM ∧ ti.d = .slice ti.el ∧ dataB te.pty = true ∧ joinOk te.pty S.A x, .sl S.n, (S.n, .arr (joinB te.pty .dp S.A x).1 te.pty new .no) :: (joinB te.pty .dp S.A x).2, S.n + 1⟩
        | .sl h => match lk (prom S.A h) h with
          | some (.arr w T es _) =>
            some ⟨es.length ≤ LIM, g = true ∧ o ∧ o' ∧ ti.d = .slice ti.el ∧ dataB te.pty = true ∧ T = te.pty ∧ (es.length + new.length) * te.bytes ≤ LIM ∧ ownO w ∧ memB (slsOf [x]) h = false ∧ joinOk te.pty (strike [h] (prom S.A h)) x, .sl S.n,
              (S.n, .arr (joinB te.pty w (strike [h] (prom S.A h)) x).1 te.pty (es ++ new) .no) :: (joinB te.pty w (strike [h] (prom S.A h)) x).2, S.n + 1⟩
          | _ => none
        | _ => none

/-- The owned array that a slice lies in, where it begins, how long it is. -/
def copyTo (A : Hp) (h : Nat) : Option (Nat × Nat × PTy × List PV × Nat) :=
  match lk A h with
  | some (.arr .dp T es _) => some (h, 0, T, es, es.length)
  | some (.arr (.vw _) T es (.sub r lo)) => (match lk A r with | some (.arr .dp T' es' _) => some (r, lo, T', es', es.length) | _ => none)
  | _ => none
def copyRes (E : Env) (S : St) (g : Bool) (o : Prop) (t h s : Nat) : Option RR :=
  match copyTo S.A h, lk E.ty t with
  | some (r, lo, T, es, n), some ti => (match srcOf S.A T (.sl s), lk E.ty ti.el with
    | some (o', new), some te => some ⟨True, g = true ∧ o ∧ o' ∧ ti.d = .slice ti.el ∧ te.pty = T ∧ flatL T = true, .int .i64 (min new.length n : Nat), set1 (strike [r] S.A) r (.arr .dp T (es.take lo ++ new.take n ++ es.drop (lo + min new.length n)) .no), S.n⟩
    | _, _ => none)
  | _, _ => none

def builtinRes (E : Env) (S : St) (g : Bool) (b : Builtin) (ts : List Nat) (o : Prop) (vs : List SV) : Option RR :=
  match b, ts, vs with
  | .len, t :: _, [.str l] => match lk E.ty t with | some ti => some ⟨l.length ≤ LIM, imp g (o ∧ ti.d = .string), .int .i64 l.length, S.A, S.n⟩ | none => none
  | .len, t :: _, [.sl h] => match lk S.A h, lk E.ty t with
    | some (.arr (.cs _) _ _ _), _ => none
    | some (.arr _ _ es _), some ti => some ⟨es.length ≤ LIM, imp g (o ∧ ti.d = .slice ti.el), .int .i64 es.length, S.A, S.n⟩
    | _, _ => none
  | .append, [t, u], [s, x] => match lk E.ty u with
    | some tu => appRes E S g (o ∧ (tu.d = .slice tu.el ∨ tu.d = .string)) t s x
    | none => none
  | .copy, [t, _], [.sl h, .sl s] => copyRes E S g o t h s
  | .min, _, [.int k a, .int k' b] => some ⟨True, imp g (o ∧ k' = k), .int k (if b < a then b else a), S.A, S.n⟩
  | .max, _, [.int k a, .int k' b] => some ⟨True, imp g (o ∧ k' = k), .int k (if b > a then b else a), S.A, S.n⟩
  | _, _, _ => none

def loadHy (T : List PTy) (ps : List PV) : Prop :=
  match T, ps with
  | .int k :: ts, p :: ps => inR k p.I ∧ loadHy ts ps
  | .str :: ts, p :: ps => p.S.length ≤ LIM ∧ loadHy ts ps
  | .list _ :: ts, p :: ps => p.L.length ≤ LIM ∧ loadHy ts ps
  | _ :: ts, _ :: ps => loadHy ts ps
  | _, _ => True

/-- Scalars are equal cell by cell. -/
def eqCs : List SV → List SV → Option Bool
  | [], [] => some true
  | .int k a :: xs, .int k' b :: ys => match eqCs xs ys with | some r => if k = k' then some ((a == b) && r) else none | none => none
  | .bool a :: xs, .bool b :: ys => match eqCs xs ys with | some r => some ((a == b) && r) | none => none
  | .str a :: xs, .str b :: ys => match eqCs xs ys with | some r => some ((a == b) && r) | none => none
  | _, _ => none

/-- The leaves of a type of the table. -/
def lvsOf (E : Env) (t : Nat) : List PTy := match lk E.ty t with | some ti => ti.leaves | none => []

def opRes (E : Env) (S : St) (g : Bool) (o : Oper) : Option RR :=
  match o.op with
  | .move x => match S.ev x with | some (g', v) => some ⟨True, imp g (g' = true), v, S.A, S.n⟩ | none => none
  | .assign x => match S.ev x with
    | some (g', v) => (if isNil (fixL S.n (lvsOf E o.type) v.cells).2.1 then some ⟨True, imp g (g' = true), v, S.A, S.n⟩
      else some ⟨True, g = true ∧ g' = true ∧ v.cells.length = (lvsOf E o.type).length, v.ofCells (fixL S.n (lvsOf E o.type) v.cells).1,
        (fixL S.n (lvsOf E o.type) v.cells).2.1 ++ S.A, (fixL S.n (lvsOf E o.type) v.cells).2.2⟩)
    | none => none
  | .pick c a b => match S.ev c, S.ev a, S.ev b with
    | some (gc, .bool x), some (ga, .bool y), some (gb, .bool z) =>
      some ⟨True, imp g (gc = true ∧ imp x (ga = true) ∧ imp (!x) (gb = true)), .bool (if x then y else z), S.A, S.n⟩
    | _, _, _ => none
  | .box t x => match S.ev x, lk E.ty t with
    | some (g', v), some ti => some ⟨True, g = true ∧ g' = true ∧ v.cells.length = ti.sz, .ptr (fixL S.n ti.leaves v.cells).2.2 0,
        ((fixL S.n ti.leaves v.cells).2.2, .box true t (fixL S.n ti.leaves v.cells).1) :: ((fixL S.n ti.leaves v.cells).2.1 ++ S.A), (fixL S.n ti.leaves v.cells).2.2 + 1⟩
    | _, _ => none
  | .alloc t => match lk E.ty t with
    | some ti => (match ti.d with
      | .array _ _ => none
      | _ => some ⟨True, g = true, .ptr (fixL S.n ti.leaves (zeroSVs ti.leaves)).2.2 0,
        ((fixL S.n ti.leaves (zeroSVs ti.leaves)).2.2, .box true t (fixL S.n ti.leaves (zeroSVs ti.leaves)).1) :: ((fixL S.n ti.leaves (zeroSVs ti.leaves)).2.1 ++ S.A), (fixL S.n ti.leaves (zeroSVs ti.leaves)).2.2 + 1⟩)
    | none => none
  | .load t x => match S.ev x, lk E.ty t with
    | some (g', .ptr h off), some ti => (match lk S.A h with
      | some (.box _ _ cs) => if off + ti.sz ≤ cs.length then
          (if ti.agg then some ⟨True, imp g (g' = true), .agg ((cs.drop off).take ti.sz), S.A, S.n⟩
           else match cs[off]? with | some v => some ⟨True, imp g (g' = true), v, S.A, S.n⟩ | none => none) else none
      | _ => none)
    | some (g', .elp h i wd off), some ti => (match lk S.A h with
      | some (.arr (.cs k) T es _) => if off = 0 ∧ ti.sz = T.wd then
          some ⟨loadHy ti.leaves (loadEl T es i off ti).leaves, g = true ∧ g' = true ∧ wd = T.wd ∧ T.leaves = ti.leaves ∧ i < es.length ∧ k ≤ i ∧ aggOk T ti.agg ∧ dataB T = true,
            (introV .dp noP off S.n ti.pty (loadEl T es i off ti)).1, (introV .dp noP off S.n ti.pty (loadEl T es i off ti)).2.1 ++ set1 (strike [h] S.A) h (.arr (.cs (i + 1)) T es .no), (introV .dp noP off S.n ti.pty (loadEl T es i off ti)).2.2⟩ else none
      | some (.arr w T es _) => if off + ti.sz ≤ T.wd then
          some ⟨loadHy ti.leaves (loadEl T es i off ti).leaves, imp g (g' = true ∧ wd = T.wd ∧ leafAt T off ti.sz = ti.leaves ∧ i < es.length ∧ aggOk T ti.agg) ∧ ((introV (viewE w h) (pathE w h i) off S.n ti.pty (loadEl T es i off ti)).2.1 ≠ [] → g = true),
            (introV (viewE w h) (pathE w h i) off S.n ti.pty (loadEl T es i off ti)).1, (introV (viewE w h) (pathE w h i) off S.n ti.pty (loadEl T es i off ti)).2.1 ++ S.A, (introV (viewE w h) (pathE w h i) off S.n ti.pty (loadEl T es i off ti)).2.2⟩ else none
      | some (.abx _ T es) => if off + ti.sz ≤ T.wd then
          some ⟨loadHy ti.leaves (loadEl T es i off ti).leaves, imp g (g' = true ∧ wd = T.wd ∧ leafAt T off ti.sz = ti.leaves ∧ i < es.length ∧ aggOk T ti.agg ∧ flatLs ti.leaves = true),
            (introV .dp noP off S.n ti.pty (loadEl T es i off ti)).1, S.A, S.n⟩ else none
      | _ => none)
    | _, _ => none
  | .store t x y => match S.ev x, S.ev y, lk E.ty t with
    | some (g', .ptr h off), some (g'', v), some ti => (match lk S.A h with
      | some (.box true bt cs) => if off + ti.sz ≤ cs.length then
          some ⟨True, g = true ∧ g' = true ∧ g'' = true ∧ v.cells.length = ti.sz ∧ leafAll v.cells = true ∧ o.dst = none, .nilp,
            set1 ((fixL S.n ti.leaves v.cells).2.1 ++ S.A) h (.box true bt (cs.take off ++ (fixL S.n ti.leaves v.cells).1 ++ cs.drop (off + ti.sz))), (fixL S.n ti.leaves v.cells).2.2⟩ else none
      | _ => none)
    | some (g', .elp h i wd off), some (g'', v), some ti => (match lk S.A h with
      | some (.arr w T es _) => if off + ti.sz ≤ T.wd then (match resLs S.A ti.leaves v.cells with
          | some (ob, ps) => some ⟨True, g = true ∧ g' = true ∧ g'' = true ∧ ob ∧ wd = T.wd ∧ leafAt T off ti.sz = ti.leaves ∧ i < es.length ∧ ownO w ∧ dataB T = true ∧ aggOk T ti.agg ∧ leafAll v.cells = true ∧ o.dst = none ∧
                takeOk w S.A (slsOf v.cells) ∧ memB (slsOf v.cells) h = false ∧ sameO w (lk (takeIn w S.A (slsOf v.cells)).2 h), .nilp,
              set1 (strike [h] (takeIn w S.A (slsOf v.cells)).2) h (.arr (takeIn w S.A (slsOf v.cells)).1 T (storeEl T es i off ps) .no), S.n⟩
          | none => none) else none
      | some (.abx true T es) => if off + ti.sz ≤ T.wd then (match resLs S.A ti.leaves v.cells with
          | some (ob, ps) => some ⟨True, g = true ∧ g' = true ∧ g'' = true ∧ ob ∧ wd = T.wd ∧ leafAt T off ti.sz = ti.leaves ∧ i < es.length ∧ flatB T = true ∧ aggOk T ti.agg ∧ leafAll v.cells = true ∧ o.dst = none, .nilp,
              set1 (strike [h] S.A) h (.abx true T (storeEl T es i off ps)), S.n⟩
          | none => none) else none
      | _ => none)
    | _, _, _ => none
  | .fieldAddr s x f => match S.ev x, lk E.ty s with
    | some (g', .ptr h off), some ti => (match ti.flds[f]? with | some (fo, ft) => some ⟨True, imp g (g' = true) ∧ (lk E.ty ft).isSome = true, .ptr h (off + fo), S.A, S.n⟩ | none => none)
    | some (g', .elp h i wd off), some ti => (match ti.flds[f]? with | some (fo, ft) => some ⟨True, imp g (g' = true) ∧ (lk E.ty ft).isSome = true, .elp h i wd (off + fo), S.A, S.n⟩ | none => none)
    | _, _ => none
  | .indexAddr t x i => match S.ev x, S.ev i, lk E.ty t with
    | some (g', .sl h), some (g'', .int _ n), some ti => (match lk S.A h, lk E.ty ti.el with
      | some (.arr _ _ es _), some te => some ⟨True, imp g (g' = true ∧ g'' = true ∧ 0 ≤ n ∧ n < es.length ∧ ti.d = .slice ti.el), .elp h n.toNat te.sz 0, S.A, S.n⟩
      | _, _ => none)
    | _, _, _ => none
  | .index t x i => match S.ev x, S.ev i, lk E.ty t with
    | some (g', .str l), some (g'', .int _ n), some ti => some ⟨True, imp g (g' = true ∧ g'' = true ∧ 0 ≤ n ∧ n < l.length ∧ ti.d = .string), .int .u8 (l.getD n.toNat 0).toNat, S.A, S.n⟩
    | _, _, _ => none
  | .binOp op t x y _ => match S.ev x, S.ev y with
    | some (g', .int k a), some (g'', .int k' b) => (match binI op k a k' b with | some (ob, v) => some ⟨True, imp g (g' = true ∧ g'' = true ∧ ob), v, S.A, S.n⟩ | none => none)
    | some (g', .str a), some (g'', .str b) => (match binS op a b with | some (ob, v) => some ⟨True, imp g (g' = true ∧ g'' = true ∧ ob), v, S.A, S.n⟩ | none => none)
    | some (g', .bool a), some (g'', .bool b) => (match lk E.ty t, op with | some ti, .eql => some ⟨True, imp g (g' = true ∧ g'' = true ∧ ti.d = .bool), .bool (a == b), S.A, S.n⟩ | some ti, .neq => some ⟨True, imp g (g' = true ∧ g'' = true ∧ ti.d = .bool), .bool (a != b), S.A, S.n⟩ | _, _ => none)
    | _, _ => none
  | .nilCheck x => match S.ev x with
    | some (g', .ptr h off) => some ⟨True, imp g (g' = true), .ptr h off, S.A, S.n⟩
    | some (g', .elp h i wd off) => some ⟨True, imp g (g' = true), .elp h i wd off, S.A, S.n⟩
    | _ => none
  | .unOp op _ x => match op, S.ev x with
    | .not, some (g', .bool b) => some ⟨True, imp g (g' = true), .bool (!b), S.A, S.n⟩
    | .neg, some (g', .int k n) => some ⟨True, imp g (g' = true), .int k (k.wrap (0 - n)), S.A, S.n⟩
    | .xor, some (g', .int k n) => some ⟨True, imp g (g' = true), .int k (xorI k (if k.signed then -1 else k.max) n), S.A, S.n⟩
    | _, _ => none
  | .convert a b x => match S.ev x, lk E.ty a, lk E.ty b with
    | some (g', v), some s, some d => convRes E S g g' s d v
    | _, _, _ => none
  | .build t parts => match lk E.ty t, evs S g (oprs parts.toList) with
    | some ti, some (ob, vs) => (match fillSV ti.flds (zeroSVs ti.leaves) (idxs parts.toList) vs with
      | some cs => some ⟨True, imp g ob ∧ partsOk E ti.flds (idxs parts.toList) vs ∧ isStruct ti.d, .agg cs, S.A, S.n⟩
      | none => none)
    | _, _ => none
  | .buildSlice t len parts => match lk E.ty t, evs S g (oprs parts.toList) with
    | some ti, some (ob, vs) => (match lk E.ty ti.el with
      | some te => (match resEs S.A te.pty vs with
        | some (ob', ps) => some ⟨True, g = true ∧ ob ∧ ob' ∧ idxs parts.toList = List.range len ∧ len * te.sz ≤ 16777216 ∧ ti.d = .slice ti.el ∧ dataB te.pty = true ∧ takeOk .dp S.A (slsAll vs), .sl S.n,
            (S.n, .arr (takeIn .dp S.A (slsAll vs)).1 te.pty ps .no) :: (takeIn .dp S.A (slsAll vs)).2, S.n + 1⟩
        | none => none)
      | none => none)
    | _, _ => none
  | .makeSlice t l c => match S.ev l, S.ev c, lk E.ty t with
    | some (g', .int .i64 n), some (g'', .int .i64 m), some ti => (match lk E.ty ti.el with
      | some te => some ⟨True, g = true ∧ g' = true ∧ g'' = true ∧ 0 ≤ n ∧ n ≤ m ∧ (te.bytes : Int) * m ≤ LIM ∧ m ≤ LIM ∧ ti.d = .slice ti.el ∧ dataB te.pty = true, .sl S.n, (S.n, .arr .dp te.pty (List.replicate n.toNat (zeroPV te.pty)) .no) :: S.A, S.n + 1⟩
      | none => none)
    | _, _, _ => none
  | .slice t x lo hi mx => match S.ev x, evO S g lo, evO S g hi, mx with
    | some (g', v), some (o1, a), some (o2, b), none => sliceRes E S g (imp g (g' = true) ∧ o1 ∧ o2) t v a b
    | _, _, _, _ => none
  | .makeFunc (.func f) first caps => match evs S g first.toList, evs S g caps.toList with
    | some (_, []), some (ob, vs) => some ⟨True, imp g ob, .fn f vs, S.A, S.n⟩
    | _, _ => none
  | .extract x i => match S.ev x with
    | some (g', .tup xs) => (match xs[i]? with | some v => some ⟨True, imp g (g' = true), v, S.A, S.n⟩ | none => none)
    | _ => none
  | .call c => match c.callee with
    | .builtin b => (match evs S g c.args.toList with
      | some (ob, vs) => builtinRes E S g b c.argTypes.toList ob vs
      | none => none)
    | .value f => (match S.ev f, evs S g c.args.toList with
      | some (g', .fn f caps), some (ob, vs) => (match callRes E S g f caps vs with
        | some R => some { R with ob := imp g (g' = true ∧ ob) ∧ R.ob }
        | none => none)
      | _, _ => none)
    | _ => none
  | _ => none

/-- A slice held against nil: an empty one may be nil or not. -/
def nilRes (E : Env) (S : St) (o : Oper) : Option (Prop × List PV × Bool) :=
  match o.op with
  | .binOp op t x y _ => match S.ev x, S.ev y, lk E.ty t with
    | some (gx, .sl h), some (gy, .nils), some ti => (match resL S.A (.list (match lk S.A h with | some (.arr _ T _ _) => T | _ => .opq)) (.sl h), op with
      | some (ob, .list es), .eql => some (gx = true ∧ gy = true ∧ ob ∧ ti.d = .slice ti.el, es, false)
      | some (ob, .list es), .neq => some (gx = true ∧ gy = true ∧ ob ∧ ti.d = .slice ti.el, es, true)
      | _, _ => none)
    | _, _, _ => none
  | _ => none

def guardOf (S : St) (ops : List Oper) : Option (Nat × Bool) → Option Bool
  | none => some true
  | some (j, w) => match ops[j]? with
    | some o => (match o.dst with
      | some d => (match S.slot d with | some (g, .bool x) => some (g && (if w then x else !x)) | _ => none)
      | none => none)
    | none => none

end Go.Proofs.Ytmjjdfhpnckacab
