/-
  The meta layer, part 3: what one operation does to typed data.
-/
import Derived.Test.YtbkefganebmlnaaGreatDoorN2
namespace Go.Abs
open Go.RowKit
set_option linter.unusedVariables false
inductive Ent where
 | non
 | val (t:Ty) (m:Md)
 | pl (i:Nat) (t0:Ty) (q:List PStep) (t:Ty)
 | av (i:Nat) (t0:Ty) (q:List PStep) (t:Ty)
 | pa (i:Nat) (t0:Ty) (q:List PStep) (t:Ty)
 | kb (b:Bool)
 | und
 | pb (o:Nat) (t:Ty)
def gB:Nat:=1048576
def gK:Nat:=2097152
def isG (t:Nat):Bool:=Nat.ble gB t
theorem isG_iff {t:Nat}:isG t = true ↔ gB <= t:=by unfold isG; exact Nat.ble_eq ▸ Iff.rfl
theorem isG_no {t:Nat}:isG t = false ↔ t < gB:=by
 rw [<- Bool.not_eq_true,isG_iff]; omega
def Ent.pay:Ent -> Type
 | .val t _ => t.den
 | .pl _ _ _ _ | .av _ _ _ _ | .pa _ _ _ _ => List Int
 | _ => Unit
def Ent.on:Ent -> Nat -> Bool
 | .pl i _ _ _,d | .av i _ _ _,d | .pa i _ _ _,d => i == d
 | .pb _ _,d => gK == d
 | _,_ => false
def Ent.onT:Ent -> Nat -> Bool
 | .pl i _ q _,d | .av i _ q _,d | .pa i _ q _,d => i == d && (!q.isEmpty || isG i)
 | _,_ => false
abbrev Ex (S:Type):=(e:Ent) × (S -> e.pay)
def Ex.non {S:Type}:Ex S:=⟨.non,fun _ => ()⟩
structure Res (S:Type) where
 X:Type
 run:S -> Option X
 e:Ent
 f:S -> X -> e.pay
 us:List (Nat × ((e:Ent) × (S -> X -> e.pay)))
mutual
def Ty.same:(a b:Ty) -> Option (PLift (a = b))
 | .int k,.int k' => if h:k = k' then some ⟨by rw [h]⟩ else none
 | .bool,.bool => some ⟨rfl⟩
 | .str,.str => some ⟨rfl⟩
 | .sl e t,.sl e' t' => if h:e = e' then match Ty.same t t' with | some ⟨k⟩ => some ⟨by rw [h,k]⟩ | none => none else none
 | .ptr t,.ptr t' => match Ty.same t t' with | some ⟨k⟩ => some ⟨by rw [k]⟩ | none => none
 | .st ts,.st ts' => match Ty.sames ts ts' with | some ⟨k⟩ => some ⟨by rw [k]⟩ | none => none
 | .fn ps r,.fn ps' r' => match Ty.sames ps ps',Ty.same r r' with | some ⟨k⟩,some ⟨l⟩ => some ⟨by rw [k,l]⟩ | _,_ => none
 | .tup ts,.tup ts' => match Ty.sames ts ts' with | some ⟨k⟩ => some ⟨by rw [k]⟩ | none => none
 | _,_ => none
def Ty.sames:(a b:List Ty) -> Option (PLift (a = b))
 | [],[] => some ⟨rfl⟩
 | t :: ts,t' :: ts' => match Ty.same t t',Ty.sames ts ts' with | some ⟨k⟩,some ⟨l⟩ => some ⟨by rw [k,l]⟩ | _,_ => none
 | _,_ => none
end
mutual
def Ty.zero:(t:Ty) -> Option t.den
 | .int _ => some (0:Int)
 | .bool => some false
 | .str => some ([]:List UInt8)
 | .sl _ _ => some []
 | .st ts => Ty.zeros ts
 | _ => none
def Ty.zeros:(ts:List Ty) -> Option (Ty.dens ts)
 | [] => some ()
 | t :: ts => match t.zero,Ty.zeros ts with | some x,some y => some (x,y) | _,_ => none
end
mutual
def Ty.zcells:Ty -> List Value
 | .int k => [.int k 0]
 | .bool => [.bool false]
 | .str => [.string ⟨#[]⟩]
 | .sl _ _ => [.slice none 0 0]
 | .st ts => Ty.zcellss ts
 | _ => []
def Ty.zcellss:List Ty -> List Value
 | [] => []
 | t :: ts => t.zcells ++ Ty.zcellss ts
end
mutual
def Ty.all:Ty -> Md
 | .sl _ t => .u t.all
 | .ptr t => .u t.all
 | .st ts => Ty.alls ts
 | .tup ts => Ty.alls ts
 | _ => .p
def Ty.alls:List Ty -> Md
 | [] => .p
 | t :: ts => .s t.all (Ty.alls ts)
end
mutual
def Ty.fresh:Ty -> Md -> Bool
 | .int _,_ => true
 | .bool,_ => true
 | .str,_ => true
 | .sl _ t,m => (match m with | .u c => t.fresh c | _ => false)
 | .ptr t,m => (match m with | .u c => t.fresh c | _ => false)
 | .st ts,m => Ty.freshs ts m
 | .tup ts,m => Ty.freshs ts m
 | .fn _ _,_ => false
def Ty.freshs:List Ty -> Md -> Bool
 | [],_ => true
 | t :: ts,m => t.fresh m.hd && Ty.freshs ts m.tl
end
def nthT:List Ty -> Nat -> Type
 | [],_ => Unit
 | t :: _,0 => t.den
 | _ :: ts,n + 1 => nthT ts n
def ioT (ts:List Ty):Option Nat -> Type
 | none => Unit
 | some n => nthT ts n
def nthG:(ts:List Ty) -> (n:Nat) -> Ty.dens ts -> nthT ts n
 | [],_,_ => ()
 | _ :: _,0,x => x.1
 | _ :: ts,n + 1,x => nthG ts n x.2
def ioG (ts:List Ty):(io:Option Nat) -> Ty.dens ts -> ioT ts io
 | none,_ => ()
 | some n,x => nthG ts n x
structure FSig where
 ps:List Ty
 cs:List Ty
 io:Option Nat
 im:Md
 r:Ty
 m:Md
 f:Ty.dens ps -> Ty.dens cs -> Option (r.den × ioT ps io)
structure Tab where
 tt:TypeId -> Option Ty
 sg:FuncId -> Option FSig
 dm:Nat -> Option Md
 tk:Nat -> Bool
 pin:Nat -> Bool
def cutI {α:Type} (l:List α) (lo hi:Int):Option (List α):=
 if 0 <= lo /\ lo <= hi /\ hi <= l.length then some ((l.take hi.toNat).drop lo.toNat) else none
def room:Nat:=2 ^ 32
def addI {α:Type} (x y:List α):Option (List α):=if x.length + y.length <= room then some (x ++ y) else none
def byteAt (l:List UInt8) (i:Int):Option Int:=if 0 <= i then match l[i.toNat]? with | some b => some (b.toNat:Int) | none => none else none
def maxI (x y:Int):Int:=if y > x then y else x
def minI (x y:Int):Int:=if y < x then y else x
def lenI {α:Type} (l:List α):Int:=l.length
def wrapI (k:IntKind) (x:Int):Int:=k.wrap x
def addZ (k:IntKind) (x y:Int):Int:=k.wrap (x + y)
def subZ (k:IntKind) (x y:Int):Int:=k.wrap (x - y)
def mulZ (k:IntKind) (x y:Int):Int:=k.wrap (x * y)
def quoZ (k:IntKind) (x y:Int):Option Int:=if y = 0 then none else some (k.wrap (x.tdiv y))
def remZ (x y:Int):Option Int:=if y = 0 then none else some (x.tmod y)
def eqZ (x y:Int):Bool:=x == y
def ltZ (x y:Int):Bool:=decide (x < y)
def leZ (x y:Int):Bool:=decide (x <= y)
def eqS (x y:List UInt8):Bool:=x == y
def ltS (x y:List UInt8):Bool:=Op.bytesLess x y
def eqB (x y:Bool):Bool:=x == y
def notB (x:Bool):Bool:=!x
def orB (x y:Bool):Bool:=x || y
def iteB {α:Type} (b:Bool) (x y:α):α:=if b then x else y
def zerosI {α:Type} (n:Int) (z:α):Option (List α):=if 0 <= n /\ n <= room then some (List.replicate n.toNat z) else none
def bitsI (op:BinOp) (k:IntKind) (x y:Int):Int:=
 let a:=BitVec.ofInt k.bits x
 let b:=BitVec.ofInt k.bits y
 match op with
 | .and => k.wrap (a &&& b).toNat
 | .or => k.wrap (a ||| b).toNat
 | .xor => k.wrap (a ^^^ b).toNat
 | _ => k.wrap (a &&& ~~~b).toNat
def shiftI (left:Bool) (k:IntKind) (x y:Int):Option Int:=
 if y < 0 then none else
 let n:=min y.toNat k.bits
 some (if left then k.wrap (x * 2 ^ n) else x.fdiv (2 ^ n))
def ofBytes (l:List Int):List UInt8:=l.map fun n => UInt8.ofNat n.toNat
def Ty.eqb:(t:Ty) -> Option (t.den -> t.den -> Bool)
 | .int _ => some eqZ
 | .bool => some eqB
 | .str => some eqS
 | _ => none
def Ty.eqbs:(ts:List Ty) -> Option (Ty.dens ts -> Ty.dens ts -> Bool)
 | [] => some fun _ _ => true
 | [t] => match t.eqb with | some f => some fun x y => f x.1 y.1 | none => none
 | t :: ts => match t.eqb,Ty.eqbs ts with | some f,some g => some fun x y => iteB (f x.1 y.1) (g x.2 y.2) false | _,_ => none
section
variable {S:Type}
def opx (g:Nat -> Ex S):Operand -> Ex S
 | .tmp t => if isG t then .non else match g t with
  | ⟨.kb b,_⟩ => ⟨.val .bool .p,fun _ => b⟩
  | x => x
 | .const (.int k n) => ⟨.val (.int k) .p,fun _ => n⟩
 | .const (.bool b) => ⟨.val .bool .p,fun _ => b⟩
 | .const (.string s) => ⟨.val .str .p,fun _ => s.data.toList⟩
 | _ => .non
def slotOf:Operand -> Option Nat | .tmp t => some t | _ => none
def pureR (e:Ent) (f:S -> e.pay):Option (Res S):=some ⟨Unit,fun _ => some (),e,fun s _ => f s,[]⟩
def pure1 (t:Ty) (f:S -> t.den):Option (Res S):=some ⟨Unit,fun _ => some (),.val t .p,fun s _ => f s,[]⟩
def part1 (t:Ty) (f:S -> Option t.den):Option (Res S):=some ⟨t.den,f,.val t .p,fun _ y => y,[]⟩
def boolRes (f:S -> Bool):Option (Res S):=pure1 .bool f
def intRes (k:IntKind) (f:S -> Int):Option (Res S):=pure1 (.int k) f
def binInt (op:BinOp) (k k':IntKind) (f h:S -> Int):Option (Res S):=
 match op with
 | .shl => part1 (.int k) fun s => shiftI true k (f s) (h s)
 | .shr => part1 (.int k) fun s => shiftI false k (f s) (h s)
 | op => if k = k' then match op with
  | .add => intRes k fun s => addZ k (f s) (h s)
  | .sub => intRes k fun s => subZ k (f s) (h s)
  | .mul => intRes k fun s => mulZ k (f s) (h s)
  | .quo => part1 (.int k) fun s => quoZ k (f s) (h s)
  | .rem => part1 (.int k) fun s => remZ (f s) (h s)
  | .and => intRes k fun s => bitsI .and k (f s) (h s)
  | .or => intRes k fun s => bitsI .or k (f s) (h s)
  | .xor => intRes k fun s => bitsI .xor k (f s) (h s)
  | .andNot => intRes k fun s => bitsI .andNot k (f s) (h s)
  | .eql => boolRes fun s => eqZ (f s) (h s)
  | .neq => boolRes fun s => notB (eqZ (f s) (h s))
  | .lss => boolRes fun s => ltZ (f s) (h s)
  | .leq => boolRes fun s => leZ (f s) (h s)
  | .gtr => boolRes fun s => ltZ (h s) (f s)
  | .geq => boolRes fun s => leZ (h s) (f s)
  | _ => none
  else none
def binStr (op:BinOp) (f h:S -> List UInt8):Option (Res S):=
 match op with
 | .add => part1 .str fun s => addI (f s) (h s)
 | .eql => boolRes fun s => eqS (f s) (h s)
 | .neq => boolRes fun s => notB (eqS (f s) (h s))
 | .lss => boolRes fun s => ltS (f s) (h s)
 | .leq => boolRes fun s => orB (ltS (f s) (h s)) (eqS (f s) (h s))
 | .gtr => boolRes fun s => notB (orB (ltS (f s) (h s)) (eqS (f s) (h s)))
 | .geq => boolRes fun s => notB (ltS (f s) (h s))
 | _ => none
def binBool (op:BinOp) (f h:S -> Bool):Option (Res S):=
 match op with
 | .eql => boolRes fun s => eqB (f s) (h s)
 | .neq => boolRes fun s => notB (eqB (f s) (h s))
 | _ => none
def binSt (op:BinOp) (ts:List Ty) (f h:S -> Ty.dens ts):Option (Res S):=
 match Ty.eqbs ts with
 | some q => match op with
  | .eql => boolRes fun s => q (f s) (h s)
  | .neq => boolRes fun s => notB (q (f s) (h s))
  | _ => none
 | none => none
def sBin (op:BinOp):Ex S -> Ex S -> Option (Res S)
 | ⟨.val (.int k) _,f⟩,⟨.val (.int k') _,h⟩ => binInt op k k' f h
 | ⟨.val .str _,f⟩,⟨.val .str _,h⟩ => binStr op f h
 | ⟨.val .bool _,f⟩,⟨.val .bool _,h⟩ => binBool op f h
 | ⟨.val (.st ts) _,f⟩,⟨.val (.st ts') m',h⟩ => match Ty.sames ts' ts with
  | some ⟨k⟩ => if Ty.fzs ts' m' then binSt op ts f (k ▸ (show S -> Ty.dens ts' from h)) else none
  | none => none
 | _,_ => none
def unBool (op:UnOp) (f:S -> Bool):Option (Res S):=match op with | .not => boolRes fun s => notB (f s) | _ => none
def unInt (op:UnOp) (k:IntKind) (f:S -> Int):Option (Res S):=match op with | .neg => intRes k fun s => subZ k 0 (f s) | _ => none
def sUn (op:UnOp):Ex S -> Option (Res S)
 | ⟨.val .bool _,f⟩ => unBool op f
 | ⟨.val (.int k) _,f⟩ => unInt op k f
 | _ => none
structure Plc (S:Type) where
 i:Nat
 t0:Ty
 q:List PStep
 t:Ty
 is:S -> List Int
def Ty.part:Ty -> Bool
 | .int _ | .bool | .str | .sl _ _ | .ptr _ => true
 | _ => false
def adrOf (o:Operand):Ex S -> Option (Plc S)
 | ⟨.val (.ptr t) (.u _),_⟩ => match slotOf o with | some i => some ⟨i,.ptr t,[.drf],t,fun _ => []⟩ | none => none
 | ⟨.pl i t0 q t,f⟩ => some ⟨i,t0,q,t,f⟩
 | _ => none
def vluOf (o:Operand):Ex S -> Option (Plc S)
 | ⟨.val t _,_⟩ => match slotOf o with | some i => some ⟨i,t,[],t,fun _ => []⟩ | none => none
 | ⟨.av i t0 q t,f⟩ => some ⟨i,t0,q,t,f⟩
 | ⟨.pl i (.ptr t') [.drf] _,_⟩ => some ⟨i,.ptr t',[],.ptr t',fun _ => []⟩
 | _ => none
def Ty.subT (t0:Ty) (q:List PStep) (t:Ty):Option ((t0.den -> List Int -> Option t.den) × (t0.den -> List Int -> t.den -> t0.den)):=
 match t0.sub q with
 | some ⟨t',gs⟩ => match Ty.same t' t with
  | some ⟨k⟩ => some (k ▸ gs)
  | none => none
 | none => none
structure Lk (S:Type) (t:Ty) where
 i:Nat
 t0:Ty
 m:Md
 q:List PStep
 f:S -> t0.den
 is:S -> List Int
 get:t0.den -> List Int -> Option t.den
 set:t0.den -> List Int -> t.den -> t0.den
def look (g:Nat -> Ex S) (p:Plc S):Option (Lk S p.t):=
 match g p.i with
 | ⟨.val t0 m,f⟩ => match Ty.same t0 p.t0 with
  | some ⟨k⟩ => match p.t0.subT p.q p.t with
   | some (get,set) => if m.own p.q && p.t0.cell then some ⟨p.i,p.t0,m,p.q,k ▸ (show S -> t0.den from f),p.is,get,set⟩ else none
   | none => none
  | none => none
 | _ => none
def Lk.content {t:Ty} (k:Lk S t) (s:S):Option t.den:=k.get (k.f s) (k.is s)
def hung (ds:List Nat) (g:Nat -> Ex S) (i:Nat):List (Nat × Ex S):=
 (ds.filter fun k => (g k).1.onT i).map fun k => (k,Ex.non)
def usX {X:Type} (l:List (Nat × Ex S)):List (Nat × ((e:Ent) × (S -> X -> e.pay))):=l.map fun p => (p.1,⟨p.2.1,fun s _ => p.2.2 s⟩)
structure Tkn (S:Type) where
 t:Ty
 m:Md
 f:S -> Option t.den
 us:List (Nat × Ex S)
def isSt:Ty -> Bool | .st _ => true | _ => false
def take (ds:List Nat) (pin:Nat -> Bool) (g:Nat -> Ex S) (o:Operand):Option (Tkn S):=
 match opx g o with
 | ⟨.val t m,f⟩ => if t.fz m then some ⟨t,m,fun s => some (f s),[]⟩ else
  match slotOf o with
  | some i => if pin i then none else some ⟨t,m,fun s => some (f s),(i,Ex.non) :: hung ds g i⟩
  | none => none
 | ⟨.av i t0 q t,f⟩ => match look g ⟨i,t0,q,t,f⟩ with
  | some k => if pin i then none else
   if q.isEmpty then some ⟨t,k.m.at k.q,k.content,(i,Ex.non) :: hung ds g i⟩
   else if noIdx q then some ⟨t,k.m.at k.q,k.content,(i,⟨.val k.t0 (k.m.setAt k.q .h),k.f⟩) :: hung ds g i⟩
   else if isSt t then some ⟨t,.h,k.content,[]⟩
   else none
  | none => none
 | _ => none
def sMove (ds:List Nat) (pin:Nat -> Bool) (g:Nat -> Ex S) (o:Operand):Option (Res S):=
 match opx g o with
 | ⟨.val t m,f⟩ =>
  if t.fz m then pure1 t f else
  match slotOf o,t with
  | some i,.ptr t' => match m with | .u _ => pureR (.pl i (.ptr t') [.drf] t') fun _ => [] | _ => none
  | some i,.tup ts => if pin i then none else some ⟨Unit,fun _ => some (),.val (.tup ts) m,fun s _ => f s,usX ((i,Ex.non) :: hung ds g i)⟩
  | some i,t => pureR (.av i t [] t) fun _ => []
  | none,_ => none
 | ⟨.av i t0 q t,f⟩ => pureR (.av i t0 q t) f
 | ⟨.pl i t0 q t,f⟩ => pureR (.pl i t0 q t) f
 | ⟨.pa i t0 q t,f⟩ => pureR (.pa i t0 q t) f
 | ⟨.pb k t,f⟩ => pureR (.pb k t) f
 | _ => none
def fitM (t:Ty) (m:Md) (d:Option Md):Md:=match d with | some m' => if t.le m m' then m' else m | none => m
def sAssign (ds:List Nat) (pin:Nat -> Bool) (g:Nat -> Ex S) (o:Operand):Option (Res S):=
 match opx g o with
 | ⟨.pl i t0 q t,f⟩ => pureR (.pl i t0 q t) f
 | _ => match take ds pin g o with
  | some k => some ⟨k.t.den,k.f,.val k.t k.m,fun _ y => y,usX k.us⟩
  | none => none
def Nd (g:Nat -> Ex S) (p:Plc S):Option (Res S):=
 match look g p with
 | some k => if p.t.cell then some ⟨p.t.den,k.content,.pa p.i p.t0 p.q p.t,fun s _ => p.is s,[]⟩ else none
 | none => none
def sBoxT (ds:List Nat) (pin:Nat -> Bool) (g:Nat -> Ex S) (o:Operand):Option (Res S):=
 match take ds pin g o with
 | some k => if k.t.cell then some ⟨k.t.den,k.f,.val (.ptr k.t) (.u k.m),fun _ y => y,usX k.us⟩ else none
 | none => none
def sBox (ds:List Nat) (pin:Nat -> Bool) (g:Nat -> Ex S) (o:Operand):Option (Res S):=
 match opx g o with
 | ⟨.av i t0 q t,f⟩ => Nd g ⟨i,t0,q,t,f⟩
 | ⟨.val t m,f⟩ => match slotOf o with
  | some j => if !(t.fz m) && pin j then Nd g ⟨j,t,[],t,fun _ => []⟩ else sBoxT ds pin g o
  | none => sBoxT ds pin g o
 | _ => none
def atPlace (g:Nat -> Ex S) (p:Plc S):Option (Res S):=
 match look g p with
 | some k => if p.t.fz (k.m.at k.q) then part1 p.t k.content else some ⟨p.t.den,k.content,.av p.i p.t0 p.q p.t,fun s _ => p.is s,[]⟩
 | none => none
def sLoad (g:Nat -> Ex S) (o:Operand) (x:Ex S):Option (Res S):=
 match x with
 | ⟨.val (.ptr t) .p,f⟩ => pure1 t f
 | ⟨.pa i t0 q t,f⟩ => atPlace g ⟨i,t0,q,t,f⟩
 | ⟨.pb k t,_⟩ => if t.part && Nat.ble (k + 1) 64 then atPlace g ⟨gB + k,t,[],t,fun _ => []⟩ else none
 | x => match adrOf o x with
  | some p => atPlace g p
  | none => none
def wantM (dm:Nat -> Option Md) {t:Ty} (k:Lk S t):Md:=match dm k.i with | some d => d.at k.q | none => k.m.at k.q
def sStoreG (ds:List Nat) (pin:Nat -> Bool) (g:Nat -> Ex S) (vo:Operand) (k:Nat) (t:Ty):Option (Res S):=
 if t.part && Nat.ble (k + 1) 64 then
  match take ds pin g vo with
  | some v => match Ty.same v.t t with
   | some ⟨e⟩ =>
    if v.us.all (fun u => u.1 != gB + k && (hung ds g (gB + k)).all fun u' => u'.1 != u.1) && (hung ds g (gB + k)).all (fun u' => u'.1 != gB + k) then
     some ⟨t.den,fun s => e ▸ v.f s,.non,(fun _ _ => ():S -> t.den -> Ent.non.pay),usX (X:=t.den) v.us ++ ((gB + k,(⟨.val t v.m,fun _ (y:t.den) => y⟩:(e:Ent) × (S -> t.den -> e.pay))) :: usX (X:=t.den) (hung ds g (gB + k)))⟩
    else none
   | none => none
  | none => none
 else none
def sStore (ds:List Nat) (pin:Nat -> Bool) (dm:Nat -> Option Md) (g:Nat -> Ex S) (o vo:Operand) (x:Ex S):Option (Res S):=
 match adrOf o x with
 | some p => match look g p with
  | some k => match take ds pin g vo with
   | some v => match Ty.same v.t p.t with
    | some ⟨e⟩ =>
     let m':=if noIdx k.q then fitM v.t v.m (match dm k.i with | some d => some (d.at k.q) | none => none) else k.m.at k.q
     if v.t.le v.m m' && v.us.all (fun u => u.1 != k.i && (hung ds g k.i).all fun u' => u'.1 != u.1) then
      some ⟨p.t.den,fun s => (k.content s).bind fun _ => e ▸ v.f s,.non,fun _ _ => (),
       usX v.us ++ (k.i,⟨.val k.t0 (if noIdx k.q then k.m.setAt k.q m' else k.m),fun s y => k.set (k.f s) (k.is s) y⟩) :: usX (hung ds g k.i)⟩
     else none
    | none => none
   | none => none
  | none => none
 | none => none
def sField (o:Operand) (n:Nat) (x:Ex S):Option (Res S):=
 match x with
 | ⟨.val (.ptr (.st ts)) .p,f⟩ => match fld ts n with
  | some ⟨t,get,_⟩ => pureR (.val (.ptr t) .p) fun s => get (f s)
  | none => none
 | ⟨.pa i t0 q (.st ts),f⟩ => match fld ts n with
  | some ⟨t,_,_⟩ => pureR (.pa i t0 (q ++ [.fld n]) t) f
  | none => none
 | ⟨.pb o (.st ts),f⟩ => match fld ts n with
  | some ⟨t,_,_⟩ => pureR (.pb (o + offs ts n) t) f
  | none => none
 | x => match adrOf o x with
  | some ⟨i,t0,q,.st ts,f⟩ => match fld ts n with
   | some ⟨t,_,_⟩ => pureR (.pl i t0 (q ++ [.fld n]) t) f
   | none => none
  | _ => none
def sStoreX (ds:List Nat) (pin:Nat -> Bool) (dm:Nat -> Option Md) (g:Nat -> Ex S) (o vo:Operand) (x:Ex S):Option (Res S):=
 match x with
 | ⟨.pb k t,_⟩ => sStoreG ds pin g vo k t
 | x => sStore ds pin dm g o vo x
def sFieldV (g:Nat -> Ex S) (o:Operand) (n:Nat) (x:Ex S):Option (Res S):=
 match x with
 | ⟨.val (.st ts) m,f⟩ => if (Ty.st ts).fz m then (match fld ts n with
  | some ⟨t,get,_⟩ => pure1 t fun s => get (f s)
  | none => none) else
  match slotOf o,fld ts n with
  | some i,some ⟨t,_,_⟩ => atPlace g ⟨i,.st ts,[.fld n],t,fun _ => []⟩
  | _,_ => none
 | ⟨.av i t0 q (.st ts),f⟩ => match fld ts n with
  | some ⟨t,_,_⟩ => atPlace g ⟨i,t0,q ++ [.fld n],t,f⟩
  | none => none
 | _ => none
def Mc (g:Nat -> Ex S) (o:Operand) (x i:Ex S):Option (Res S):=
 match i with
 | ⟨.val (.int _) _,h⟩ => match x with
  | ⟨.val (.sl e t) .p,f⟩ => some ⟨t.den,fun s => getI (show List t.den from f s) (show Int from h s),.val (.ptr t) .p,fun _ y => y,[]⟩
  | x => match vluOf o x with
   | some ⟨j,t0,q,.sl e t,is⟩ => match look g ⟨j,t0,q,.sl e t,is⟩ with
    | some k => if k.m.own (k.q ++ [.idx]) then
      some ⟨Unit,fun s => (k.content s).bind fun (l:List t.den) => (getI l (show Int from h s)).bind fun _ => some (),.pl j t0 (q ++ [.idx]) t,fun s _ => is s ++ [show Int from h s],[]⟩
     else none
    | none => none
   | _ => none
 | _ => none
def sIndex (x i:Ex S):Option (Res S):=
 match x,i with
 | ⟨.val .str _,f⟩,⟨.val (.int _) _,h⟩ => part1 (.int .u8) fun s => byteAt (show List UInt8 from f s) (show Int from h s)
 | _,_ => none
def sLen (g:Nat -> Ex S) (o:Operand) (x:Ex S):Option (Res S):=
 match x with
 | ⟨.val .str _,f⟩ => intRes .i64 fun s => lenI (show List UInt8 from f s)
 | ⟨.val (.sl e t) m,f⟩ => if (Ty.sl e t).nh m then intRes .i64 fun s => lenI (show List t.den from f s) else none
 | x => match vluOf o x with
  | some ⟨j,t0,q,.sl e t,is⟩ => match look g ⟨j,t0,q,.sl e t,is⟩ with
   | some k => if (Ty.sl e t).nh (k.m.at k.q) then some ⟨List t.den,fun s => k.content s,.val (.int .i64) .p,fun _ l => lenI l,[]⟩ else none
   | none => none
  | _ => none
def J1 (ds:List Nat) (g:Nat -> Ex S) (o:Operand) (n:Nat) (x:Ex S):Option (Res S):=
 match x,slotOf o with
 | ⟨.val (.tup ts) m,f⟩,some i => match fld ts n with
  | some ⟨t,get,_⟩ => if !t.cell then none else some ⟨Unit,fun _ => some (),.val t (m.nth n),fun s _ => get (f s),
    if t.fz (m.nth n) then [] else usX ((i,⟨.val (.tup ts) (m.setNth n .h),f⟩) :: hung ds g i)⟩
  | none => none
 | _,_ => none
def sMinMax (mx:Bool) (x y:Ex S):Option (Res S):=
 match x,y with
 | ⟨.val (.int k) _,f⟩,⟨.val (.int _) _,h⟩ => if mx then intRes k fun s => maxI (f s) (h s) else intRes k fun s => minI (f s) (h s)
 | _,_ => none
structure Arg (S:Type) (t:Ty) where
 f:S -> Option t.den
 lend:List Nat
def sArg0 (g:Nat -> Ex S) (o:Operand) (t:Ty):Option (Arg S t):=
 match opx g o with
 | ⟨.val t' m,f⟩ => match Ty.same t' t with
  | some ⟨k⟩ => if t'.fz m then some ⟨fun s => some ((k ▸ (show S -> t'.den from f)) s),[]⟩ else
   match slotOf o with
   | some i => if t'.nh m then some ⟨fun s => some ((k ▸ (show S -> t'.den from f)) s),[i]⟩ else none
   | none => none
  | none => none
 | x => match vluOf o x with
  | some p => match look g p,Ty.same p.t t with
   | some k,some ⟨e⟩ => if p.t.nh (k.m.at k.q) then some ⟨fun s => (e ▸ (show S -> Option p.t.den from k.content)) s,[p.i]⟩ else none
   | _,_ => none
  | none => none
def sFun (q:Option FSig) (t:Ty):Option (Arg S t):=
 match q with
 | some ⟨ps,[],none,_,r,m,F⟩ => match Ty.same (.fn ps r) t with
  | some ⟨k⟩ => if r.nh m then some ⟨fun _ => some (k ▸ (show (Ty.fn ps r).den from fun x => (F x ()).bind fun y => some y.1)),[]⟩ else none
  | none => none
 | _ => none
def sNilArg (t:Ty):Option (Arg S t):=
 match t with
 | .sl e u => some ⟨fun _ => some (show List u.den from []),[]⟩
 | _ => none
def sArg1 (G:FuncId -> Option FSig) (g:Nat -> Ex S) (o:Operand) (t:Ty):Option (Arg S t):=
 match o with
 | .func f => sFun (G f) t
 | .const (.slice none 0 0) => sNilArg t
 | o => sArg0 g o t
structure Args (S:Type) (ts:List Ty) where
 f:S -> Option (Ty.dens ts)
 lend:List Nat
structure Io (S:Type) where
 t:Ty
 k:Lk S t
def sArgs (G:FuncId -> Option FSig) (g:Nat -> Ex S) (im:Md):(io:Option Nat) -> List Operand -> (ts:List Ty) -> Option (Args S ts × Option (Io S))
 | _,[],[] => some (⟨fun _ => some (),[]⟩,none)
 | some 0,x :: xs,t :: ts => match vluOf x (opx g x) with
  | some p => match Ty.same p.t t,look g p,sArgs G g im none xs ts with
   | some ⟨e⟩,some k,some (r,_) => if k.m.at k.q = im /\ t.nh im = true then
     some (⟨fun s => (k.content s).bind fun y => (r.f s).bind fun z => some ((e ▸ y,z):Ty.dens (t :: ts)),r.lend⟩,some ⟨p.t,k⟩) else none
   | _,_,_ => none
  | none => none
 | io,x :: xs,t :: ts => match sArg1 G g x t,sArgs G g im (match io with | some (n + 1) => some n | _ => none) xs ts with
  | some a,some (r,i) => some (⟨fun s => (a.f s).bind fun y => (r.f s).bind fun z => some ((y,z):Ty.dens (t :: ts)),a.lend ++ r.lend⟩,i)
  | _,_ => none
 | _,_,_ => none
def castT {t' t:Ty}:Option (PLift (t' = t)) -> Option (t'.den -> t.den)
 | some ⟨k⟩ => some fun y => k ▸ y
 | none => none
def ioBackN:(ps:List Ty) -> (n:Nat) -> (t:Ty) -> Option (nthT ps n -> t.den)
 | [],_,_ => none
 | t' :: _,0,t => castT (Ty.same t' t)
 | _ :: ts,n + 1,t => ioBackN ts n t
def ioBack (ps:List Ty):(io:Option Nat) -> (t:Ty) -> Option (ioT ps io -> t.den)
 | none,_ => none
 | some n,t => ioBackN ps n t
def sCall (G:FuncId -> Option FSig) (ds:List Nat) (g:Nat -> Ex S) (xs:List Operand):FSig -> Option (Res S)
 | ⟨ps,[],io,im,r,m,f⟩ => match sArgs G g im io xs ps with
  | some (a,none) => match io with
   | none => if a.lend.isEmpty || r.fresh m then
     some ⟨r.den,fun s => (a.f s).bind fun x => (f x ()).bind fun y => some y.1,.val r m,fun _ y => y,[]⟩
    else none
   | some _ => none
  | some (a,some ⟨t,k⟩) => match ioBack ps io t with
   | some back => if (a.lend.isEmpty || (r.fresh m && t.fresh im)) && !a.lend.contains k.i then
     some ⟨r.den × ioT ps io,fun s => (a.f s).bind fun x => f x (),.val r m,fun _ y => y.1,
      (k.i,⟨.val k.t0 k.m,fun s y => k.set (k.f s) (k.is s) (back y.2)⟩) :: usX (hung ds g k.i)⟩
    else none
   | none => none
  | none => none
 | _ => none
mutual
def Ty.flat:Ty -> Bool
 | .int _ | .bool | .str => true
 | .st ts => Ty.flats ts
 | .tup ts => Ty.flats ts
 | _ => false
def Ty.flats:List Ty -> Bool
 | [] => true
 | t :: ts => t.flat && Ty.flats ts
end
def sCallV (G:FuncId -> Option FSig) (g:Nat -> Ex S) (xs:List Operand):Ex S -> Option (Res S)
 | ⟨.val (.fn ps r) _,f⟩ => match sArgs G g .p none xs ps with
  | some (a,_) => if a.lend.isEmpty || (r.flat && r.cell) then
    some ⟨r.den,fun s => (a.f s).bind fun x => (show Ty.dens ps -> Option r.den from f s) x,.val r .p,fun _ y => y,[]⟩
   else none
  | none => none
 | _ => none
def Tab.is (T:Tab) (t:TypeId) (ty:Ty):Bool:=match T.tt t with | some u => (match Ty.same u ty with | some _ => true | none => false) | none => false
def sConst (T:Tab) (t:TypeId) (v:Value):Option (Res S):=
 match v with
 | .slice none 0 0 => match T.tt t with
  | some (.sl e u) => pureR (.val (.sl e u) (.u u.all)) fun _ => ([]:List u.den)
  | _ => none
 | .int k n => intRes k fun _ => n
 | .bool b => boolRes fun _ => b
 | .string s => pure1 .str fun _ => s.data.toList
 | _ => pureR .non fun _ => ()
def sAlloc (T:Tab) (t:TypeId):Option (Res S):=
 match T.tt t with
 | some ty => match ty.zero with
  | some z => if ty.cell then pureR (.val (.ptr ty) (.u ty.all)) fun _ => z else none
  | none => none
 | none => none
def sNil (o:Operand) (x:Ex S):Option (Res S):=
 match x with
 | ⟨.val (.ptr t) .p,f⟩ => pureR (.val (.ptr t) .p) f
 | ⟨.pa i t0 q t,f⟩ => pureR (.pa i t0 q t) f
 | ⟨.pb k t,f⟩ => pureR (.pb k t) f
 | x => match adrOf o x with
  | some p => pureR (.pl p.i p.t0 p.q p.t) p.is
  | none => none
def N1 (T:Tab) (t:TypeId) (len cap:Ex S):Option (Res S):=
 match T.tt t,len,cap with
 | some (.sl e ty),⟨.val (.int .i64) _,f⟩,⟨.val (.int .i64) _,h⟩ => match ty.zero with
  | some z => some ⟨List ty.den,fun s => if eqZ (f s) (h s) then zerosI (show Int from f s) z else none,.val (.sl e ty) (.u ty.all),fun _ l => l,[]⟩
  | none => none
 | _,_,_ => none
structure Parts (S:Type) (ts:List Ty) where
 m:Md
 f:S -> Option (Ty.dens ts)
 us:List (Nat × Ex S)
def partAt (n:Nat):List (Nat × Operand) -> Option Operand
 | [] => none
 | p :: l => if p.1 = n then some p.2 else partAt n l
def sParts (ds:List Nat) (pin:Nat -> Bool) (g:Nat -> Ex S) (ps:List (Nat × Operand)):(n:Nat) -> (ts:List Ty) -> Option (Parts S ts)
 | _,[] => some ⟨.p,fun _ => some (),[]⟩
 | n,t :: ts => match sParts ds pin g ps (n + 1) ts with
  | some r => match partAt n ps with
   | some o => match take ds pin g o with
    | some k => match Ty.same k.t t with
     | some ⟨e⟩ => if t.cell && k.us.all (fun u => r.us.all fun v => u.1 != v.1) then
       some ⟨.s k.m r.m,fun s => (k.f s).bind fun y => (r.f s).bind fun z => some ((e ▸ y,z):Ty.dens (t :: ts)),k.us ++ r.us⟩ else none
     | none => none
    | none => none
   | none => match t.zero with
    | some z => some ⟨.s t.all r.m,fun s => (r.f s).bind fun zs => some ((z,zs):Ty.dens (t :: ts)),r.us⟩
    | none => none
  | none => none
def Ty.hasZs (ts:List Ty):Bool:=match Ty.zeros ts with | some _ => true | none => false
def Ty.hasZ (t:Ty):Bool:=match t.zero with | some _ => true | none => false
def sBuild (ds:List Nat) (T:Tab) (g:Nat -> Ex S) (t:TypeId) (ps:List (Nat × Operand)):Option (Res S):=
 match T.tt t with
 | some (.st ts) => match sParts ds T.pin g ps 0 ts with
  | some r => if decide (ps.map (·.1)).Nodup && ps.all (fun p => decide (p.1 < ts.length)) && Ty.hasZs ts then some ⟨Ty.dens ts,r.f,.val (.st ts) r.m,fun _ y => y,usX r.us⟩ else none
  | none => none
 | _ => none
def listOf (t:Ty):(n:Nat) -> Ty.dens (List.replicate n t) -> List t.den
 | 0,_ => []
 | n + 1,x => x.1 :: listOf t n x.2
def eachLe (t:Ty) (c:Md):Nat -> Md -> Bool
 | 0,_ => true
 | n + 1,m => t.le m.hd c && eachLe t c n m.tl
def elemM (T:Tab) (d:Option Nat) (ty:Ty) (n:Nat) (m:Md):Md:=
 match (match d with | some j => T.dm j | none => none) with
 | some (.u c) => c
 | _ => if eachLe ty ty.all n m then ty.all else .p
def J0 (ds:List Nat) (T:Tab) (g:Nat -> Ex S) (d:Option Nat) (t:TypeId) (n:Nat) (ps:List (Nat × Operand)):Option (Res S):=
 match T.tt t with
 | some (.sl e ty) => match sParts ds T.pin g ps 0 (List.replicate n ty) with
  | some r =>
   if eachLe ty (elemM T d ty n r.m) n r.m && decide (ps.map (·.1)).Nodup && ps.all (fun p => decide (p.1 < n)) && decide (n * ty.size <= 10000) && ty.hasZ then
    some ⟨Ty.dens (List.replicate n ty),r.f,.val (.sl e ty) (.u (elemM T d ty n r.m)),fun _ y => listOf ty n y,usX r.us⟩ else none
  | none => none
 | _ => none
def appLe (t:Ty) (c:Md):Md -> Bool
 | .u c' => t.le c' c
 | .h => false
 | _ => t.le .p c
def Ot (ds:List Nat) (T:Tab) (g:Nat -> Ex S) (e:TypeId) (t:Ty) (c:Md) (fx:S -> Option (Ty.sl e t).den) (ux:List (Nat × Ex S)) (y:Operand):Option (Res S):=
 match take ds T.pin g y with
 | some ⟨.sl e' t',m,fy,uy⟩ => match Ty.same t' t with
  | some ⟨k⟩ =>
   if appLe t c m && ux.all (fun u => uy.all fun v => u.1 != v.1) then
    some ⟨List t.den,fun s => (fx s).bind fun a => (fy s).bind fun b => addI (show List t.den from a) (k ▸ (show List t'.den from b)),.val (.sl e t) (.u c),fun _ l => l,usX ux ++ usX uy⟩ else none
  | none => none
 | _ => none
def frozenX:Ex S -> Bool
 | ⟨.val t m,_⟩ => t.fz m
 | _ => false
def Oo (g:Nat -> Ex S) (e:TypeId) (t:Ty) (c:Md) (fx:S -> Option (Ty.sl e t).den) (ux:List (Nat × Ex S)) (y:Operand):Option (Res S):=
 match vluOf y (opx g y) with
 | some p => match look g p with
  | some k => match Ty.same p.t (.sl e t) with
   | some ⟨eq⟩ => if ux.all (fun u => u.1 != p.i) && p.t.nh (k.m.at k.q) then
     some ⟨List t.den,fun s => (fx s).bind fun a => (k.content s).bind fun b => addI (show List t.den from a) (show List t.den from (eq ▸ b:(Ty.sl e t).den)),.val (.sl e t) (.u c),fun _ l => l,usX ux⟩ else none
   | none => none
  | none => none
 | none => none
def sAppend (ds:List Nat) (T:Tab) (g:Nat -> Ex S) (x y:Operand):Option (Res S):=
 match take ds T.pin g x with
 | some ⟨.sl e t,.u c,fx,ux⟩ => if t.flat && !(frozenX (opx g y)) then Oo g e t c fx ux y else Ot ds T g e t c fx ux y
 | _ => none
def optInt (g:Nat -> Ex S):Option Operand -> Option (Option (S -> Int))
 | none => some none
 | some o => match opx g o with
  | ⟨.val (.int _) _,f⟩ => some (some f)
  | _ => none
def loI (l:Option (S -> Int)) (s:S):Int:=match l with | some f => f s | none => 0
def hiI (h:Option (S -> Int)) (s:S) (n:Int):Int:=match h with | some k => k s | none => n
def sSlice (ds:List Nat) (T:Tab) (g:Nat -> Ex S) (x:Operand) (lo hi:Option Operand):Option (Res S):=
 match optInt g lo,optInt g hi with
 | some l,some h =>
  match opx g x with
  | ⟨.val .str _,f⟩ => part1 .str fun s => cutI (show List UInt8 from f s) (loI l s) (hiI h s (lenI (show List UInt8 from f s)))
  | ⟨.val (.sl e t) .p,f⟩ => part1 (.sl e t) fun s => cutI (show List t.den from f s) (loI l s) (hiI h s (lenI (show List t.den from f s)))
  | _ => match l,h with
   | none,some k => match take ds T.pin g x with
    | some ⟨.sl e t,.u c,fx,ux⟩ => some ⟨List t.den,fun s => (fx s).bind fun a => cutI (show List t.den from a) 0 (k s),.val (.sl e t) (.u c),fun _ y => y,usX ux⟩
    | _ => none
   | _,_ => none
 | _,_ => none
def Rg (T:Tab) (src dst:TypeId) (x:Ex S):Option (Res S):=
 match x,T.tt dst with
 | ⟨.val (.int _) _,f⟩,some (.int k) => intRes k fun s => wrapI k (f s)
 | ⟨.val (.sl _ (.int .u8)) m,f⟩,some .str => if (Ty.sl 0 (.int .u8)).nh m then pure1 .str fun s => ofBytes (show List Int from f s) else none
 | _,_ => none
def sCaps (ds:List Nat) (pin:Nat -> Bool) (g:Nat -> Ex S):List Operand -> (ts:List Ty) -> Option ((S -> Ty.dens ts) × List (Nat × Ex S))
 | [],[] => some (fun _ => (),[])
 | x :: xs,t :: ts => match opx g x,slotOf x,sCaps ds pin g xs ts with
  | ⟨.val (.ptr t') m,f⟩,some i,some (h,us) => match Ty.same t' t with
   | some ⟨k⟩ => if (Ty.ptr t').fz m then some (fun s => ((k ▸ (show S -> t'.den from f)) s,h s),us)
    else if !pin i && (Ty.ptr t').nh m && us.all (fun u => u.1 != i) then some (fun s => ((k ▸ (show S -> t'.den from f)) s,h s),(i,⟨.val (.ptr t') .p,f⟩) :: hung ds g i ++ us) else none
   | none => none
  | _,_,_ => none
 | _,_ => none
def Ms (ds:List Nat) (T:Tab) (g:Nat -> Ex S) (f:FuncId) (caps:List Operand):Option (Res S):=
 match T.sg f with
 | some ⟨ps,cs,none,_,r,m,F⟩ => match sCaps ds T.pin g caps cs with
  | some (h,us) => if r.nh m then some ⟨Unit,fun _ => some (),.val (.fn ps r) .p,fun s _ => fun x => (F x (h s)).bind fun y => some y.1,usX us⟩ else none
  | none => none
 | _ => none
def Ent.ty:Ent -> Option Ty
 | .val (.ptr t) (.u _) => some t
 | .val t _ => some t
 | .pl _ _ _ t | .av _ _ _ t | .pa _ _ _ t => some t
 | _ => none
def Ent.tyA:Ent -> Option Ty
 | .val (.ptr t) _ => some t
 | .pl _ _ _ t | .pa _ _ _ t => some t
 | .pb _ t => some t
 | _ => none
def Ent.tyV:Ent -> Option Ty
 | .val t _ => some t
 | .av _ _ _ t => some t
 | .pl _ _ _ t => some (.ptr t)
 | _ => none
def Tab.isA (T:Tab) (t:TypeId) (e:Ent):Bool:=match e.tyA with | some u => T.is t u | none => false
def Tab.isV (T:Tab) (t:TypeId) (e:Ent):Bool:=match e.tyV with | some u => T.is t u | none => false
def sop (T:Tab) (ds:List Nat) (g:Nat -> Ex S) (o:Oper):Option (Res S):=
 match o.op with
 | .move x => sMove ds T.pin g x
 | .assign x => match x with
  | .const v => sConst T o.type v
  | x => sAssign ds T.pin g x
 | .box _ x => sBox ds T.pin g x
 | .alloc t => sAlloc T t
 | .load t a => if T.isA t (opx g a).1 then sLoad g a (opx g a) else none
 | .store t a v => match o.dst with
  | none => if T.isA t (opx g a).1 then sStoreX ds T.pin T.dm g a v (opx g a) else none
  | some _ => none
 | .nilCheck x => sNil x (opx g x)
 | .binOp op t x y _ => match (opx g x).1 with
  | .val .bool _ => if T.is t .bool then sBin op (opx g x) (opx g y) else none
  | .val (.st ts) m => if T.is t (.st ts) && Ty.fzs ts m then sBin op (opx g x) (opx g y) else none
  | _ => sBin op (opx g x) (opx g y)
 | .unOp op _ x => sUn op (opx g x)
 | .fieldAddr t x n => if T.isA t (opx g x).1 then sField x n (opx g x) else none
 | .field t x n => if T.isV t (opx g x).1 then sFieldV g x n (opx g x) else none
 | .indexAddr t x i => if T.isV t (opx g x).1 then Mc g x (opx g x) (opx g i) else none
 | .index t x i => if T.isV t (opx g x).1 then sIndex (opx g x) (opx g i) else none
 | .extract x n => J1 ds g x n (opx g x)
 | .build t ps => sBuild ds T g t ps.toList
 | .buildSlice t n ps => J0 ds T g o.dst t n ps.toList
 | .makeSlice t l c => N1 T t (opx g l) (opx g c)
 | .slice t x lo hi none => if T.isV t (opx g x).1 then sSlice ds T g x lo hi else none
 | .convert s d x => if T.isV s (opx g x).1 then Rg T s d (opx g x) else none
 | .makeFunc (.func f) fs cs => if fs.isEmpty then Ms ds T g f cs.toList else none
 | .call c => match c.callee with
  | .value (.func f) => match T.sg f with
   | some s => sCall T.sg ds g c.args.toList s
   | none => none
  | .value x => sCallV T.sg g c.args.toList (opx g x)
  | .builtin .len => match c.args.toList,c.argTypes.toList with
   | [x],[t] => if T.isV t (opx g x).1 then sLen g x (opx g x) else none
   | _,_ => none
  | .builtin .max => match c.args.toList with | [x,y] => sMinMax true (opx g x) (opx g y) | _ => none
  | .builtin .min => match c.args.toList with | [x,y] => sMinMax false (opx g x) (opx g y) | _ => none
  | .builtin .append => match c.args.toList,c.argTypes.toList with
   | [x,y],[t,t'] => if t = t' /\ T.isV t (opx g x).1 /\ T.isV t (opx g y).1 then sAppend ds T g x y else none
   | _,_ => none
  | _ => none
 | _ => none
end
end Go.Abs
