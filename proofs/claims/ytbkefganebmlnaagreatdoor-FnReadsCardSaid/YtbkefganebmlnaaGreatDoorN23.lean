/-
  The meta layer, part 23: statements and whole functions, read ahead.
-/
import Derived.Test.YtbkefganebmlnaaGreatDoorN22
namespace Go.Abs
open Go.RowKit
set_option linter.unusedVariables false
set_option linter.unusedSimpArgs false
inductive Out (A B C:Type) where
 | norm (a:A)
 | exit (b:B)
 | ret (c:C)
def XT:List (Nat × Ctx) -> Type
 | [] => Empty
 | q :: X => Env q.2 ⊕ XT X
def XT.left:(X Y:List (Nat × Ctx)) -> XT X -> XT (X ++ Y)
 | [],_,x => Empty.elim x
 | _ :: _,_,Sum.inl e => Sum.inl e
 | _ :: X,Y,Sum.inr x => Sum.inr (XT.left X Y x)
def XT.right:(X Y:List (Nat × Ctx)) -> XT Y -> XT (X ++ Y)
 | [],_,y => y
 | _ :: X,Y,y => Sum.inr (XT.right X Y y)
structure SR (R:Type) (Γ:Ctx) where
 Δ:Ctx
 dead:Bool
 X:List (Nat × Ctx)
 f:Env Γ -> Option (Out (Env Δ) (XT X) R)
 g:{α:Type} -> Env Γ -> (Out (Env Δ) (XT X) R -> Option α) -> Option α
 ok:∀ {α:Type} (s:Env Γ) (k:Out (Env Δ) (XT X) R -> Option α),g s k = (f s).bind k
def Out.bind {A A' B B' C:Type} (o:Out A B C) (k:A -> Option (Out A' B' C)) (h:B -> B'):Option (Out A' B' C):=
 match o with
 | .norm a => k a
 | .exit b => some (.exit (h b))
 | .ret c => some (.ret c)
def Out.mapX {A B B' C:Type} (o:Out A B C) (h:B -> B'):Out A B' C:=
 match o with
 | .norm a => .norm a
 | .exit b => .exit (h b)
 | .ret c => .ret c
def loopN {σ A B C:Type}:Nat -> (σ -> Option (Out σ B C)) -> σ -> Option (Out A B C)
 | 0,_,_ => none
 | n + 1,F,s => (F s).bind fun o => match o with
  | .norm s' => loopN n F s'
  | .exit b => some (.exit b)
  | .ret c => some (.ret c)
def big:Nat:=2 ^ 64
def retSlot:ResultVar -> Nat
 | .tmp i => i
 | .cell i _ => i
def retEnt:ResultVar -> Ty -> Md -> Ent
 | .tmp _,t,m => .val t m
 | .cell _ _,t,m => .val (.ptr t) (.u m)
def retC:List Ty -> Md -> List ResultVar -> Ctx
 | t :: ts,m,v :: vs => (retSlot v,retEnt v t m.hd) :: retC ts m.tl vs
 | _,_,_ => []
def ioC:(ps:List Ty) -> (io:Option Nat) -> Md -> Ctx
 | ps,some n,im => match ps[n]? with | some t => [(n,.val t im)] | none => []
 | _,none,_ => []
def exactV {S:Type} (x:Ex S) (t:Ty) (m:Md):Option (S -> t.den):=
 match x with
 | ⟨.val t' m',f⟩ => match Ty.same t' t with
  | some ⟨k⟩ => if m' = m then some (k ▸ (show S -> t'.den from f)) else none
  | none => none
 | _ => none
theorem Vq {S:Type} {x:Ex S} {t:Ty} {m:Md} {f:S -> t.den} (h:exactV x t m = some f):x = ⟨.val t m,f⟩:=by
 unfold exactV at h
 split at h
 ·rename_i t' m' g
  split at h
  ·rename_i k _
   subst k
   split at h
   ·rename_i hm
    subst hm
    cases h
    rfl
   ·cases h
  ·cases h
 ·cases h
def ret1 {S:Type} (g:Nat -> Ex S) (Tb:Tab) (t:Ty) (m:Md):ResultVar -> Option (S -> t.den)
 | .tmp i => exactV (g i) t m
 | .cell i ty => if Tb.is ty t then exactV (g i) (.ptr t) (.u m) else none
def rets {S:Type} (g:Nat -> Ex S) (Tb:Tab):(ts:List Ty) -> Md -> List ResultVar -> Option (S -> Ty.dens ts)
 | [],_,[] => some fun _ => ()
 | t :: ts,m,v :: vs => match ret1 g Tb t m.hd v,rets g Tb ts m.tl vs with
  | some f,some h => some fun s => (f s,h s)
  | _,_ => none
 | _,_,_ => none
def retV {S:Type} (g:Nat -> Ex S) (Tb:Tab) (R:Ty) (m:Md) (vs:List ResultVar):Option (S -> R.den):=
 match vs with
 | [v] => if R.cell then ret1 g Tb R m v else none
 | vs => match R with
  | .tup ts => if decide (vs.length ≠ 1) then rets g Tb ts m vs else none
  | _ => none
def retCtx (R:Ty) (m:Md) (vs:List ResultVar):Ctx:=
 match vs with
 | [v] => [(retSlot v,retEnt v R m)]
 | vs => match R with
  | .tup ts => retC ts m vs
  | _ => []
def ioV {S:Type} (g:Nat -> Ex S) (im:Md):(ps:List Ty) -> (n:Nat) -> (slot:Nat) -> Option (S -> nthT ps n)
 | [],_,_ => some fun _ => ()
 | t :: _,0,i => exactV (g i) t im
 | _ :: ts,n + 1,i => ioV g im ts n i
def ioW {S:Type} (g:Nat -> Ex S) (im:Md) (ps:List Ty):(io:Option Nat) -> Option (S -> ioT ps io)
 | none => some fun _ => ()
 | some n => ioV g im ps n n
structure FC where
 Tb:Tab
 n:Nat
 ps:List Ty
 io:Option Nat
 im:Md
 R:Ty
 m:Md
 rv:List ResultVar
abbrev FC.RT (C:FC):Type:=C.R.den × ioT C.ps C.io
def retOk (C:FC):Bool:=
 (decide (C.rv.map retSlot).Nodup && C.rv.all fun v => !isG (retSlot v)) && (match C.io with | some k => !(C.rv.map retSlot).contains k && !isG k | none => true)
def retR (C:FC) (Γ:Ctx):Option (Env Γ -> C.RT):=
 if retOk C then
  match weakTo Γ.get (retCtx C.R C.m C.rv ++ ioC C.ps C.io C.im),retV (Ctx.get (retCtx C.R C.m C.rv ++ ioC C.ps C.io C.im)) C.Tb C.R C.m C.rv,ioW (Ctx.get (retCtx C.R C.m C.rv ++ ioC C.ps C.io C.im)) C.im C.ps C.io with
  | some ρ,some f,some h => some fun s => (f (ρ s),h (ρ s))
  | _,_,_ => none
 else none
structure Cat (Δ:Ctx) (X:List (Nat × Ctx)) where
 rest:List (Nat × Ctx)
 f:XT X -> Env Δ ⊕ XT rest
def XT.catch (id:Nat) (Δ:Ctx):(X:List (Nat × Ctx)) -> Option (Cat Δ X)
 | [] => some ⟨[],fun x => Empty.elim x⟩
 | q :: X => match XT.catch id Δ X with
  | some c => if q.1 = id then match weakTo q.2.get Δ with
    | some ρ => some ⟨c.rest,fun x => match x with
     | Sum.inl z => Sum.inl (ρ z)
     | Sum.inr x => c.f x⟩
    | none => none
   else some ⟨q :: c.rest,fun x => match x with
    | Sum.inl z => Sum.inr (Sum.inl z)
    | Sum.inr x => match c.f x with
     | Sum.inl e => Sum.inl e
     | Sum.inr y => Sum.inr (Sum.inr y)⟩
  | none => none
def SR.to {R:Type} {Γ:Ctx} (r:SR R Γ) (Δ:Ctx):Option (Env r.Δ -> Option (Env Δ)):=
 if r.dead then some fun _ => none
 else match weakTo r.Δ.get Δ with
  | some ρ => some fun e => some (ρ e)
  | none => none
def joinAll (ks:List Nat):List Ctx -> Option Ctx
 | [] => none
 | Γ :: l => some (l.foldl (fun a b => joinC ks (fun k => (a.get k).1) (fun k => (b.get k).1)) (joinC ks (fun k => (Γ.get k).1) (fun k => (Γ.get k).1)))
def SR.pure {R:Type} {Γ:Ctx}:SR R Γ:=⟨Γ,false,[],fun s => some (.norm s),fun s k => k (.norm s),fun _ _ => rfl⟩
def SR.reg {R:Type} {Γ:Ctx} (r:CR Γ):SR R Γ:=⟨r.Δ,false,[],fun s => (r.f s).bind fun e => some (.norm e),fun s k => r.g s fun e => k (.norm e),fun s k => by rw [r.ok]; cases r.f s <;> rfl⟩
def SR.seqD {R:Type} {Γ:Ctx} (ra:SR R Γ):SR R Γ:=⟨ra.Δ,true,ra.X,fun s => (ra.f s).bind fun o => o.bind (fun _ => none) id,
 fun s k => ra.g s fun o => match o with | .norm _ => none | .exit x => k (.exit x) | .ret y => k (.ret y),fun s k => by rw [ra.ok]; cases ra.f s with | none => rfl | some o => cases o <;> rfl⟩
def SR.seq {R:Type} {Γ:Ctx} (ra:SR R Γ) (rb:SR R ra.Δ):SR R Γ:=⟨rb.Δ,rb.dead,ra.X ++ rb.X,
 fun s => (ra.f s).bind fun o => o.bind (fun e => (rb.f e).bind fun o => some (o.mapX (XT.right ra.X rb.X))) (XT.left ra.X rb.X),
 fun s k => ra.g s fun o => match o with | .norm e => rb.g e fun o => k (o.mapX (XT.right ra.X rb.X)) | .exit x => k (.exit (XT.left ra.X rb.X x)) | .ret y => k (.ret y),
 fun s k => by
  rw [ra.ok]
  cases ra.f s with
  | none => rfl
  | some o =>
   cases o with
   | norm e =>
    refine (rb.ok e _).trans ?_
    show _ = Option.bind (Option.bind (rb.f e) _) k
    cases rb.f e <;> rfl
   | exit x => rfl
   | ret y => rfl⟩
theorem R8 {α:Type} (x:Option α):x.bind some = x:=by cases x <;> rfl
def armK {A A' B B' C α:Type} (h:A -> Option A') (i:B -> B') (k:Out A' B' C -> Option α):Out A B C -> Option α
 | .norm e => (h e).bind fun z => k (.norm z)
 | .exit x => k (.exit (i x))
 | .ret y => k (.ret y)
theorem armK_ok {A A' B B' C α:Type} (h:A -> Option A') (i:B -> B') (k:Out A' B' C -> Option α) (x:Option (Out A B C)):x.bind (armK h i k) = (x.bind fun o => o.bind (fun e => (h e).bind fun z => some (.norm z)) i).bind k:=by
 cases x with
 | none => rfl
 | some o =>
  cases o with
  | norm e => show Option.bind (h e) _ = Option.bind (Option.bind (h e) _) k; cases h e <;> rfl
  | exit x => rfl
  | ret y => rfl
def condK {α β:Type} (j:Bool) (p:Bool) (x y:(β -> Option α) -> Option α) (x' y':(β -> Option β) -> Option β) (k:β -> Option α):Option α:=
 match j with
 | true => if p then x k else y k
 | false => (if p then x' some else y' some).bind k
def SR.cond {R:Type} {Γ:Ctx} (p:Env Γ -> Bool) (rx ry:SR R Γ) (Δ:Ctx) (hx:Env rx.Δ -> Option (Env Δ)) (hy:Env ry.Δ -> Option (Env Δ)):SR R Γ:=⟨Δ,rx.dead && ry.dead,rx.X ++ ry.X,
 fun s => if p s then (rx.f s).bind fun o => o.bind (fun e => (hx e).bind fun z => some (.norm z)) (XT.left rx.X ry.X)
  else (ry.f s).bind fun o => o.bind (fun e => (hy e).bind fun z => some (.norm z)) (XT.right rx.X ry.X),
 fun s k => condK (rx.dead || ry.dead) (p s) (fun k => rx.g s (armK hx (XT.left rx.X ry.X) k)) (fun k => ry.g s (armK hy (XT.right rx.X ry.X) k)) (fun k => rx.g s (armK hx (XT.left rx.X ry.X) k)) (fun k => ry.g s (armK hy (XT.right rx.X ry.X) k)) k,
 fun s k => by
  have e1:∀ {α:Type} (k:Out (Env Δ) (XT (rx.X ++ ry.X)) R -> Option α),rx.g s (armK hx (XT.left rx.X ry.X) k) = ((rx.f s).bind fun o => o.bind (fun e => (hx e).bind fun z => some (.norm z)) (XT.left rx.X ry.X)).bind k:=fun k => by rw [rx.ok,armK_ok]
  have e2:∀ {α:Type} (k:Out (Env Δ) (XT (rx.X ++ ry.X)) R -> Option α),ry.g s (armK hy (XT.right rx.X ry.X) k) = ((ry.f s).bind fun o => o.bind (fun e => (hy e).bind fun z => some (.norm z)) (XT.right rx.X ry.X)).bind k:=fun k => by rw [ry.ok,armK_ok]
  unfold condK
  cases (rx.dead || ry.dead)
  ·simp only [e1,e2]
   cases p s
   ·simp only [Bool.false_eq_true,if_false,R8]
   ·simp only [if_true,R8]
  ·simp only [e1,e2]
   cases p s
   ·simp only [Bool.false_eq_true,if_false]
   ·simp only [if_true]⟩
def blkK {A A' B B' C α:Type} (h:A -> Option A') (c:B -> A' ⊕ B') (k:Out A' B' C -> Option α):Out A B C -> Option α
 | .norm e => (h e).bind fun z => k (.norm z)
 | .exit x => match c x with
  | Sum.inl e => k (.norm e)
  | Sum.inr y => k (.exit y)
 | .ret y => k (.ret y)
theorem blkK_ok {A A' B B' C α:Type} (h:A -> Option A') (c:B -> A' ⊕ B') (k:Out A' B' C -> Option α) (x:Option (Out A B C)):x.bind (blkK h c k) = (x.bind (blkK h c some)).bind k:=by
 cases x with
 | none => rfl
 | some o =>
  cases o with
  | norm e => show Option.bind (h e) _ = Option.bind (Option.bind (h e) _) k; cases h e <;> rfl
  | exit x => show (match c x with | Sum.inl e => k (.norm e) | Sum.inr y => k (.exit y)) = Option.bind (match c x with | Sum.inl e => some (.norm e) | Sum.inr y => some (.exit y)) k; cases c x <;> rfl
  | ret y => rfl
def SR.block {R:Type} {Γ:Ctx} (r:SR R Γ) (Δ:Ctx) (h:Env r.Δ -> Option (Env Δ)) (c:Cat Δ r.X):SR R Γ:=⟨Δ,false,c.rest,fun s => (r.f s).bind (blkK h c.f some),fun s k => r.g s (blkK h c.f k),fun s k => by rw [r.ok,blkK_ok]⟩
def SR.blockD {R:Type} {Γ:Ctx} (r:SR R Γ):SR R Γ:=⟨r.Δ,true,r.X,r.f,r.g,r.ok⟩
def SR.exit {R:Type} {Γ:Ctx} (id:Nat):SR R Γ:=⟨Γ,true,[(id,Γ)],fun s => some (.exit (Sum.inl s)),fun s k => k (.exit (Sum.inl s)),fun _ _ => rfl⟩
def SR.ret {R:Type} {Γ:Ctx} (h:Env Γ -> R):SR R Γ:=⟨Γ,true,[],fun s => some (.ret (h s)),fun s k => k (.ret (h s)),fun _ _ => rfl⟩
structure Lp (R:Type) (Γ:Ctx) where
 Γ':Ctx
 ρ:Env Γ -> Env Γ'
 X:List (Nat × Ctx)
 f:Env Γ' -> Option (Out (Env Γ') (XT X) R)
 f2:Env Γ' -> Option (Out (Env Γ') (XT X) R)
 ok:f2 = f
def Lp.of {R:Type} {Γ:Ctx} (Γ':Ctx) (ρ:Env Γ -> Env Γ') (r:SR R Γ') (h:Env r.Δ -> Option (Env Γ')):Lp R Γ:=
 ⟨Γ',ρ,r.X,fun s => (r.f s).bind fun o => o.bind (fun e => (h e).bind fun z => some (.norm z)) id,fun s => r.g s (armK h id some),by funext s; rw [r.ok,armK_ok,R8]⟩
def SR.loop {R:Type} {Γ:Ctx} (l:Lp R Γ):SR R Γ:=⟨l.Γ',true,l.X,fun s => loopN big l.f (l.ρ s),fun s k => (loopN big l.f2 (l.ρ s)).bind k,fun s k => by rw [l.ok]⟩
def loopFix {R:Type} (F:(Γ:Ctx) -> Option (SR R Γ)) (ks:List Nat) (Γ:Ctx):Nat -> (Γ':Ctx) -> Option (Lp R Γ)
 | 0,_ => none
 | k + 1,Γ' => match weakTo Γ.get Γ',F Γ' with
  | some ρ,some r => match r.to Γ' with
   | some h => some (Lp.of Γ' ρ r h)
   | none => loopFix F ks Γ k (joinC ks (fun k => (Γ'.get k).1) (fun k => (r.Δ.get k).1))
  | _,_ => none
def regUses:List Oper -> List Nat -> List Nat
 | [],_ => []
 | o :: l,D => (opTmps o.op).filter (fun t => !D.contains t) ++ regUses l (match o.dst with | some d => d :: D | none => D)
def lkE (E:List (Nat × List Nat)) (id:Nat):List Nat:=match E with | [] => [] | q :: E => if q.1 = id then q.2 else lkE E id
def liveIn (R:List Nat):Code -> (K:List Nat) -> (E:List (Nat × List Nat)) -> List Nat
 | .region _ ops _,K,_ =>
  let ds:=dstsOf ops
  dedup (regUses ops.toList [] ++ K.filter fun t => !ds.contains t)
 | .cond c x y,K,E => dedup ((match c with | .tmp t => [t] | _ => []) ++ liveIn R x K E ++ liveIn R y K E)
 | .seq x y,K,E => liveIn R x (liveIn R y K E) E
 | .block id x,K,E => liveIn R x K ((id,K) :: E)
 | .loop x,_,E => liveIn R x (liveIn R x [] E) E
 | .exit id,_,E => lkE E id
 | .ret,_,_ => R
 | _,K,_ => K
def dmC (dm:Nat -> Option Md) (Γ:Ctx):Ctx:=Γ.map fun p => match p.2,dm p.1 with
 | .val t m,some m' => (p.1,.val t (fitM t m (some m')))
 | _,_ => p
def expSl (ops:Array Oper) (Γ:Ctx):List Nat:=(dedup (ops.toList.flatMap fun o => opTmps o.op)).filter fun t => match (Γ.get t).1 with
 | .val (.ptr (.st _)) (.u _) => true
 | _ => false
def cexps (dr:Bool) (Tb:Tab) (n:Nat) (ops:Array Oper) (ks:List Nat) (Γ:Ctx):List Nat -> Option (CR Γ)
 | [] => none
 | gs :: l => match cexp dr Tb n ops ks Γ gs with
  | some r => some r
  | none => cexps dr Tb n ops ks Γ l
def cstR (C:FC) (ops:Array Oper) (dr:Bool) (K:List Nat) (Γ:Ctx):Option (CR Γ):=
 match dr with
 | true => match cany C.Tb C.n ops K Γ with
  | some r => some r
  | none => cexps true C.Tb C.n ops K Γ (expSl ops Γ)
 | false => match cops C.Tb C.n ops K (8 * ops.size + 8) ops.toList Γ with
  | some r => some r
  | none => cexps false C.Tb C.n ops K Γ (expSl ops Γ)
def cstH (C:FC) (id:Nat) (ops:Array Oper) (dr:Bool) (K:List Nat) (Γ:Ctx):Option (CR Γ):=
 match C.Tb.dm (100000 * (id + 1) + 99999) with
 | none => cstR C ops dr K Γ
 | some _ => match weakTo Γ.get (dmC (fun s => C.Tb.dm (100000 * (id + 1) + s)) Γ) with
  | some ρ => match cstR C ops dr K (dmC (fun s => C.Tb.dm (100000 * (id + 1) + s)) Γ) with
   | some r => some (CR.pre ρ r)
   | none => none
  | none => none
def SR.undef {R:Type} {Γ:Ctx}:SR R Γ:=⟨Γ,true,[],fun _ => none,fun _ _ => none,fun _ _ => rfl⟩
def FC.ret (C:FC):List Nat:=C.rv.map retSlot ++ C.io.toList
def cst (C:FC):Code -> (K:List Nat) -> (E:List (Nat × List Nat)) -> (Γ:Ctx) -> Option (SR C.RT Γ)
 | .skip,_,_,Γ => some SR.pure
 | .label _,_,_,Γ => some SR.pure
 | .region id ops dr,K,_,Γ => match C.Tb.dm (2000000000 + id) with
  | some _ => some SR.undef
  | none => match cstH C id ops dr K Γ with
   | some r => some (SR.reg r)
   | none => none
 | .seq a b,K,E,Γ => match cst C a (liveIn C.ret b K E) E Γ with
  | some ra => if ra.dead then some ra.seqD
   else match cst C b K E ra.Δ with
    | some rb => some (ra.seq rb)
    | none => none
  | none => none
 | .cond c x y,K,E,Γ => match opx Γ.get c with
  | ⟨.val .bool _,p⟩ => match cst C x K E Γ,cst C y K E Γ with
   | some rx,some ry =>
    let Δ:=if rx.dead then ry.Δ else if ry.dead then rx.Δ else joinC K (fun k => (rx.Δ.get k).1) (fun k => (ry.Δ.get k).1)
    match rx.to Δ,ry.to Δ with
    | some hx,some hy => some (SR.cond p rx ry Δ hx hy)
    | _,_ => none
   | _,_ => none
  | _ => none
 | .block id body,K,E,Γ => match cst C body K ((id,K) :: E) Γ with
  | some r =>
   match joinAll K ((if r.dead then [] else [r.Δ]) ++ (r.X.filter fun q => q.1 == id).map (·.2)) with
   | none => some r.blockD
   | some Δ => match r.to Δ,XT.catch id Δ r.X with
    | some h,some c => some (r.block Δ h c)
    | _,_ => none
  | none => none
 | .loop body,_,E,Γ =>
  match loopFix (cst C body (liveIn C.ret (.loop body) [] E) E) (liveIn C.ret (.loop body) [] E) Γ 4 (dmC C.Tb.dm (joinC (liveIn C.ret (.loop body) [] E) (fun k => (Γ.get k).1) (fun k => (Γ.get k).1))) with
  | some l => some (SR.loop l)
  | none => none
 | .exit id,_,_,Γ => some (SR.exit id)
 | .ret,_,_,Γ => match retR C Γ with
  | some h => some (SR.ret h)
  | none => none
 | _,_,_,_ => none
section
variable (C:Cx)
def SimE (Γ:Ctx) (s:Env Γ) (a:Act) (w:World):Prop:=∃ P T,Sim C (dyn Γ s) a w P T
def RetE (fn:Func) (F:FC) (vs:List Value) (y:F.RT) (a:Act) (w:World):Prop:=
 a.defers = [] /\ ∃ v P Tr Tq,(results fn a.tmps).run C.M w = .ok v w /\ PExt C.F C.w0 C.P0 w P /\ RepV C.M F.R w P F.m y.1 v Tr /\ IoR C.M w P F.im F.ps F.io y.2 vs Tq /\ (Tr ++ Tq).Nodup /\ ∀ b ∈ Tr ++ Tq,(C.w0.heap.size <= b \/ b ∈ C.F) /\ b < w.heap.size
def XPost (Q:Exit -> Act -> World -> Prop):(X:List (Nat × Ctx)) -> XT X -> Prop
 | [],x => Empty.elim x
 | q :: _,Sum.inl e => ∀ a w,SimE C q.2 e a w -> Q (.exit q.1) a w
 | _ :: X,Sum.inr x => XPost Q X x
def OPost (fn:Func) (F:FC) (vs:List Value) (Q:Exit -> Act -> World -> Prop) (X:List (Nat × Ctx)) (Δ:Ctx):Out (Env Δ) (XT X) F.RT -> Prop
 | .norm e => ∀ a w,SimE C Δ e a w -> Q .normal a w
 | .exit x => XPost C Q X x
 | .ret y => ∀ a w,RetE C fn F vs y a w -> Q .ret a w
end
end Go.Abs
