/-
  The meta layer, part 19: a region read ahead: its operations as one function from the contents of the slots to the contents of the slots.
-/
import Derived.Test.YtbkefganebmlnaaGreatDoorN18
namespace Go.Abs
open Go.RowKit
set_option linter.unusedVariables false
set_option linter.unusedSimpArgs false
abbrev Ctx:=List (Nat × Ent)
def Env:Ctx -> Type
 | [] => Unit
 | p :: Γ => p.2.pay × Env Γ
def Ctx.get:(Γ:Ctx) -> Nat -> Ex (Env Γ)
 | [],_ => Ex.non
 | p :: Γ,n => if p.1 = n then ⟨p.2,fun s => s.1⟩ else ⟨(Ctx.get Γ n).1,fun s => (Ctx.get Γ n).2 s.2⟩
def dyn (Γ:Ctx) (s:Env Γ):Fr:=fun n => (Γ.get n).at s
structure CE (S:Type) where
 Γ:Ctx
 ρ:S -> Env Γ
def CE.del {S:Type} (i:Nat):(Γ:Ctx) -> (S -> Env Γ) -> CE S
 | [],_ => ⟨[],fun _ => ()⟩
 | p :: Γ,ρ => if p.1 = i then CE.del i Γ (fun s => (ρ s).2) else ⟨p :: (CE.del i Γ (fun s => (ρ s).2)).Γ,fun s => ((ρ s).1,(CE.del i Γ (fun s => (ρ s).2)).ρ s)⟩
def CE.drop {S:Type} (d:Nat):(Γ:Ctx) -> (S -> Env Γ) -> CE S
 | [],_ => ⟨[],fun _ => ()⟩
 | p :: Γ,ρ => if p.1 = d then CE.drop d Γ (fun s => (ρ s).2) else
   if p.2.on d then ⟨(p.1,.non) :: (CE.drop d Γ (fun s => (ρ s).2)).Γ,fun s => ((),(CE.drop d Γ (fun s => (ρ s).2)).ρ s)⟩
   else ⟨p :: (CE.drop d Γ (fun s => (ρ s).2)).Γ,fun s => ((ρ s).1,(CE.drop d Γ (fun s => (ρ s).2)).ρ s)⟩
def CE.fr {S:Type} (c:CE S) (s:S):Fr:=dyn c.Γ (c.ρ s)
theorem CE.del_fr {S:Type} (i:Nat) (s:S):∀ (Γ:Ctx) (ρ:S -> Env Γ) (n:Nat),n ≠ i -> (CE.del i Γ ρ).fr s n = dyn Γ (ρ s) n
 | [],_,_,_ => rfl
 | p :: Γ,ρ,n,hn => by
  simp only [CE.del]
  have ih:=CE.del_fr i s Γ (fun s => (ρ s).2) n hn
  simp only [CE.fr,dyn] at ih
  split
  ·rename_i hp
   simp only [CE.fr,dyn,Ctx.get]
   rw [if_neg (by rw [hp]; exact Ne.symm hn),ih]
   rfl
  ·simp only [CE.fr,dyn,Ctx.get]
   by_cases h:p.1 = n
   ·rw [if_pos h,if_pos h]; rfl
   ·rw [if_neg h,if_neg h]
    show (Ctx.get _ n).at _ = (Ctx.get Γ n).at (ρ s).2
    rw [<- ih]
theorem dyn_eq {p:Nat × Ent} {Γ:Ctx} {s:Env (p :: Γ)}:dyn (p :: Γ) s p.1 = ⟨p.2,fun _ => s.1⟩:=by
 simp only [dyn,Ctx.get,if_true]; rfl
theorem dyn_ne {p:Nat × Ent} {Γ:Ctx} {s:Env (p :: Γ)} {n:Nat} (h:p.1 ≠ n):dyn (p :: Γ) s n = dyn Γ s.2 n:=by
 simp only [dyn,Ctx.get,if_neg h]; rfl
def flt (d:Nat) (x:Ex Unit):Ex Unit:=if x.1.on d then Ex.non else x
theorem CE.drop_fr {S:Type} (d:Nat) (s:S):∀ (Γ:Ctx) (ρ:S -> Env Γ) (n:Nat),n ≠ d -> (CE.drop d Γ ρ).fr s n = flt d (dyn Γ (ρ s) n)
 | [],_,_,_ => rfl
 | p :: Γ,ρ,n,hn => by
  have ih:=CE.drop_fr d s Γ (fun s => (ρ s).2) n hn
  by_cases hp:p.1 = d
  ·have hpn:p.1 ≠ n:=fun e => hn (e ▸ hp)
   rw [dyn_ne hpn,<- ih]
   simp only [CE.drop,if_pos hp]
  ·by_cases hon:p.2.on d = true
   ·simp only [CE.drop,if_neg hp,if_pos hon]
    by_cases h:p.1 = n
    ·subst h
     rw [dyn_eq]
     refine (dyn_eq (p:=(p.1,Ent.non))).trans ?_
     simp only [flt,if_pos hon]
     rfl
    ·rw [dyn_ne h]
     refine (dyn_ne (p:=(p.1,Ent.non)) h).trans ?_
     exact ih
   ·simp only [CE.drop,if_neg hp,if_neg hon]
    by_cases h:p.1 = n
    ·subst h
     rw [dyn_eq]
     refine (dyn_eq (p:=p)).trans ?_
     simp only [flt,if_neg hon]
    ·rw [dyn_ne h]
     refine (dyn_ne (p:=p) h).trans ?_
     exact ih
def CE.set {S:Type} (c:CE S) (i:Nat) (x:Ex S):CE S:=
 let r:=CE.del i c.Γ c.ρ
 ⟨(i,x.1) :: r.Γ,fun s => (x.2 s,r.ρ s)⟩
def CE.put {S:Type} (c:CE S) (d:Nat) (x:Ex S):CE S:=
 let r:=CE.drop d c.Γ c.ρ
 ⟨(d,x.1) :: r.Γ,fun s => (x.2 s,r.ρ s)⟩
theorem CE.set_fr {S:Type} (c:CE S) (i:Nat) (x:Ex S) (s:S):(c.set i x).fr s = setE (c.fr s) i (x.at s):=by
 funext n
 unfold setE
 by_cases h:n = i
 ·subst h
  rw [if_pos rfl]
  simp only [CE.set,CE.fr,dyn,Ctx.get,if_true]
  rfl
 ·rw [if_neg h]
  have:=CE.del_fr i s c.Γ c.ρ n h
  simp only [CE.fr,dyn] at this
  simp only [CE.set,CE.fr,dyn,Ctx.get]
  rw [if_neg (Ne.symm h)]
  show (Ctx.get _ n).at _ = _
  rw [<- this]
theorem CE.put_fr {S:Type} (c:CE S) (d:Nat) (x:Ex S) (s:S):(c.put d x).fr s = Go.Abs.put (c.fr s) d (x.at s):=by
 funext n
 unfold Go.Abs.put
 by_cases h:n = d
 ·subst h
  rw [if_pos rfl]
  exact dyn_eq (p:=(n,x.1))
 ·rw [if_neg h]
  refine (dyn_ne (p:=(d,x.1)) (Ne.symm h)).trans ?_
  exact CE.drop_fr d s c.Γ c.ρ n h
def CE.pull {S S':Type} (c:CE S) (f:S' -> S):CE S':=⟨c.Γ,fun s => c.ρ (f s)⟩
def Ex.pull {S S':Type} (x:Ex S) (f:S' -> S):Ex S':=⟨x.1,fun s => x.2 (f s)⟩
def CE.sets {S:Type} (c:CE S) (us:List (Nat × Ex S)):CE S:=us.foldl (fun c p => c.set p.1 p.2) c
theorem CE.sets_fr {S:Type} (s:S):∀ (us:List (Nat × Ex S)) (c:CE S),(c.sets us).fr s = app (c.fr s) (usAt s us)
 | [],c => rfl
 | p :: us,c => by
  show ((c.set p.1 p.2).sets us).fr s = _
  rw [CE.sets_fr s us,CE.set_fr]
  rfl
structure CR (Γ:Ctx) where
 Δ:Ctx
 f:Env Γ -> Option (Env Δ)
 g:{α:Type} -> Env Γ -> (Env Δ -> Option α) -> Option α
 ok:∀ {α:Type} (s:Env Γ) (k:Env Δ -> Option α),g s k = (f s).bind k
theorem bind_ok {α β γ:Type} (x:Option α) (f:α -> β) (k:β -> Option γ):(x.bind fun y => k (f y)) = (x.bind fun y => some (f y)).bind k:=by cases x <;> rfl
def CR.pure {Γ:Ctx} (Δ:Ctx) (ρ:Env Γ -> Env Δ):CR Γ:=⟨Δ,fun s => some (ρ s),fun s k => k (ρ s),fun _ _ => rfl⟩
def CR.run {Γ:Ctx} {X:Type} (run:Env Γ -> Option X) (Δ:Ctx) (ρ:Env Γ × X -> Env Δ):CR Γ:=⟨Δ,fun s => (run s).bind fun y => some (ρ (s,y)),fun s k => (run s).bind fun y => k (ρ (s,y)),fun s k => bind_ok (run s) (fun y => ρ (s,y)) k⟩
def CR.seq {Γ:Ctx} (r1:CR Γ) (r2:CR r1.Δ):CR Γ:=⟨r2.Δ,fun s => (r1.f s).bind r2.f,fun s k => r1.g s fun e => r2.g e k,fun s k => by rw [r1.ok]; cases r1.f s with | none => rfl | some e => exact r2.ok e k⟩
def CR.split {Γ Γ1 Γ2:Ctx} (p:Env Γ -> Bool) (i1:Env Γ -> Env Γ1) (i2:Env Γ -> Env Γ2) (r:CR Γ1) (r':CR Γ2) (Δ:Ctx) (ρ:Env r.Δ -> Env Δ) (ρ':Env r'.Δ -> Env Δ):CR Γ:=
 ⟨Δ,fun s => if p s then (r.f (i1 s)).bind (fun e => some (ρ e)) else (r'.f (i2 s)).bind (fun e => some (ρ' e)),
  fun s k => (if p s then r.g (i1 s) (fun e => some (ρ e)) else r'.g (i2 s) (fun e => some (ρ' e))).bind k,fun s k => by rw [r.ok,r'.ok]⟩
def CR.pre {Γ Γ':Ctx} (ρ:Env Γ -> Env Γ') (r:CR Γ'):CR Γ:=⟨r.Δ,fun s => r.f (ρ s),fun s k => r.g (ρ s) k,fun s k => r.ok (ρ s) k⟩
def CE.here (Γ:Ctx):CE (Env Γ):=⟨Γ,fun s => s⟩
def keys (Γ:Ctx):List Nat:=Γ.map (·.1)
theorem Vh:∀ {Γ:Ctx} (s:Env Γ) {t:Nat},t ∉ keys Γ -> dyn Γ s t = Ex.non
 | [],s,t,h => rfl
 | p :: Γ,s,t,h => by
  have h':t ≠ p.1 /\ t ∉ keys Γ:=by simpa [keys] using h
  rw [dyn_ne (Ne.symm h'.1)]
  exact Vh s.2 h'.2
def cafter {Γ:Ctx} (r:Res (Env Γ)):CE (Env Γ × r.X):=((CE.here Γ).pull (fun q:Env Γ × r.X => q.1)).sets (r.us.map fun p => (p.1,⟨p.2.1,fun q => p.2.2 q.1 q.2⟩))
def cexec (Tb:Tab) (n:Nat) (dl K:List Nat) (o:Oper) (Γ:Ctx):Option (CR Γ):=
 match xop Tb dl Γ.get o with
 | some r => if chk n Tb.pin K Γ.get o.dst r then
   match o.dst with
   | some d =>
    let c:=(cafter r).put d ⟨r.e,fun q => r.f q.1 q.2⟩
    some (CR.run r.run c.Γ c.ρ)
   | none =>
    let c:=cafter r
    some (CR.run r.run c.Γ c.ρ)
   else none
 | none => none
def eqL:List Nat -> List Nat -> Bool
 | [],[] => true
 | a :: l,b :: m => Nat.beq a b && eqL l m
 | _,_ => false
theorem eqL_eq:∀ {l m:List Nat},eqL l m = true -> l = m
 | [],[],_ => rfl
 | a :: l,b :: m,h => by
  simp only [eqL,Bool.and_eq_true] at h
  rw [Nat.eq_of_beq_eq_true h.1,eqL_eq h.2]
 | [],_ :: _,h => by cases h
 | _ :: _,[],h => by cases h
def keysB (K:List Nat) (Γ:Ctx):Bool:=eqL K (keys Γ) || (keys Γ).all fun t => K.contains t
def cop (Tb:Tab) (n:Nat) (dl K:List Nat) (ops:Array Oper) (o:Oper) (Γ:Ctx):Option (CR Γ):=
 match runs ops Γ.get o with
 | some true => if keysB K Γ then cexec Tb n dl K o Γ else none
 | some false => match o.dst with
  | some d => if decide (d < n) && !isG d && !Tb.pin d then
    let c:=(CE.here Γ).put d ⟨.und,fun _ => ()⟩
    some (CR.pure c.Γ c.ρ)
   else none
  | none => none
 | none => none
def need (ops:Array Oper) (o:Oper) (Γ:Ctx):Option ((d:Nat) × { p:Env Γ -> Bool // ∃ m,Γ.get d = ⟨.val .bool m,p⟩ }):=
 let look (d:Nat):Option ((d:Nat) × { p:Env Γ -> Bool // ∃ m,Γ.get d = ⟨.val .bool m,p⟩ }):=
  match h:Γ.get d with
  | ⟨.val .bool m,p⟩ => some ⟨d,p,m,h⟩
  | _ => none
 let g:Option ((d:Nat) × { p:Env Γ -> Bool // ∃ m,Γ.get d = ⟨.val .bool m,p⟩ }):=
  match o.guard with
  | some (j,_) => match (ops[j]?).bind (·.dst) with
   | some d => look d
   | none => none
  | none => none
 match g with
 | some x => some x
 | none => match runs ops Γ.get o,o.op with
  | some true,.pick (.tmp c) _ _ => look c
  | _,_ => none
def setKb (Γ:Ctx) (d:Nat) (b:Bool):CE (Env Γ):=(CE.here Γ).put d ⟨.kb b,fun _ => ()⟩
def castPl {S:Type} (i i':Nat) (t0 t0':Ty) (q q':List PStep) (t t':Ty) (f:S -> List Int):Option (S -> List Int):=
 match Ty.same t0' t0,Ty.same t' t with
 | some _,some _ => if i' = i /\ q' = q then some f else none
 | _,_ => none
def castV {S:Type} (x:Ex S) (t:Ty) (m:Md):Option (S -> t.den):=
 match x with
 | ⟨.val t' m',f⟩ => match Ty.same t' t with
  | some ⟨k⟩ => if m' = m \/ t'.le m' m = true then some (k ▸ (show S -> t'.den from f)) else none
  | none => none
 | ⟨.kb b,_⟩ => match Ty.same .bool t with
  | some ⟨k⟩ => some (k ▸ (fun _:S => b))
  | none => none
 | _ => none
def castL {S:Type} (x:Ex S) (i:Nat) (t0:Ty) (q:List PStep) (t:Ty):Option (S -> List Int):=
 match x with
 | ⟨.pl i' t0' q' t',f⟩ => castPl i i' t0 t0' q q' t t' f
 | _ => none
def castA {S:Type} (x:Ex S) (i:Nat) (t0:Ty) (q:List PStep) (t:Ty):Option (S -> List Int):=
 match x with
 | ⟨.av i' t0' q' t',f⟩ => castPl i i' t0 t0' q q' t t' f
 | _ => none
def castB {S:Type} (x:Ex S) (i:Nat) (t0:Ty) (q:List PStep) (t:Ty):Option (S -> List Int):=
 match x with
 | ⟨.pa i' t0' q' t',f⟩ => castPl i i' t0 t0' q q' t t' f
 | _ => none
def castG {S:Type} (x:Ex S) (o:Nat) (t:Ty):Option (S -> Unit):=
 match x with
 | ⟨.pb o' t',_⟩ => match Ty.same t' t with
  | some _ => if o' = o then some fun _ => () else none
  | none => none
 | _ => none
def castE {S:Type} (x:Ex S):(e:Ent) -> Option (S -> e.pay)
 | .non => some fun _ => ()
 | .val t m => castV x t m
 | .pl i t0 q t => castL x i t0 q t
 | .av i t0 q t => castA x i t0 q t
 | .pa i t0 q t => castB x i t0 q t
 | .kb _ => none
 | .und => none
 | .pb o t => castG x o t
def weakE {S:Type} (g:Nat -> Ex S):(Δ:Ctx) -> Option (S -> Env Δ)
 | [] => some fun _ => ()
 | p :: Δ => match castE (g p.1) p.2,weakE g Δ with
  | some f,some ρ => some fun s => (f s,ρ s)
  | _,_ => none
def sameE:Ent -> Ent -> Bool
 | .val t m,.val t' m' => (match Ty.same t t' with | some _ => true | none => false) && decide (m = m')
 | _,_ => false
def Ent.rootT:Ent -> Option Nat
 | .pl i _ q _ | .av i _ q _ | .pa i _ q _ => if q.isEmpty && !isG i then none else some i
 | _ => none
def rootsOk (g:Nat -> Ent) (Δ:Ctx):Bool:=Δ.all fun p => match p.2.rootT with
 | some i => sameE (g i) (Δ.get i).1
 | none => true
def weakTo {S:Type} (g:Nat -> Ex S) (Δ:Ctx):Option (S -> Env Δ):=if rootsOk (fun i => (g i).1) Δ then weakE g Δ else none
def Md.join (t:Ty) (a b:Md):Option Md:=if a = b then some a else if t.le a b then some b else if t.le b a then some a else if t.nh a && t.nh b then some .p else none
def joinE (x y:Nat -> Ent) (k:Nat):Ent:=
 let pl (i:Nat) (t0:Ty) (q:List PStep) (t:Ty) (i':Nat) (t0':Ty) (q':List PStep) (t':Ty):Bool:=
  match Ty.same t0 t0',Ty.same t t' with
  | some _,some _ => decide (i = i' /\ q = q') && (q.isEmpty && !isG i || sameE (x i) (y i))
  | _,_ => false
 match x k,y k with
 | .val t m,.val t' m' => match Ty.same t t' with
  | some _ => match Md.join t m m' with
   | some m'' => .val t m''
   | none => .non
  | none => .non
 | .kb _,.val .bool _ => .val .bool .p
 | .val .bool _,.kb _ => .val .bool .p
 | .kb _,.kb _ => .val .bool .p
 | .pl i t0 q t,.pl i' t0' q' t' => if pl i t0 q t i' t0' q' t' then .pl i t0 q t else .non
 | .av i t0 q t,.av i' t0' q' t' => if pl i t0 q t i' t0' q' t' then .av i t0 q t else .non
 | .pa i t0 q t,.pa i' t0' q' t' => if pl i t0 q t i' t0' q' t' then .pa i t0 q t else .non
 | .pb o t,.pb o' t' => if decide (o = o') && (match Ty.same t t' with | some _ => true | none => false) then .pb o t else .non
 | _,_ => .non
def Ent.isNon:Ent -> Bool | .non => true | _ => false
def joinC (ks:List Nat) (x y:Nat -> Ent):Ctx:=
 let rs:=ks.filterMap fun k => (joinE x y k).rootT
 ((ks ++ rs.filter fun i => !ks.contains i).map fun k => (k,joinE x y k)).filter fun p => !p.2.isNon
def cops (Tb:Tab) (n:Nat) (ops:Array Oper) (ks:List Nat):Nat -> List Oper -> (Γ:Ctx) -> Option (CR Γ)
 | 0,_,_ => none
 | _ + 1,[],Γ =>
  let Δ:=joinC ks (fun k => (Γ.get k).1) (fun k => (Γ.get k).1)
  match weakTo Γ.get Δ with
  | some ρ => some (CR.pure Δ ρ)
  | none => none
 | fuel + 1,o :: l,Γ => match need ops o Γ with
  | some ⟨d,p,_⟩ =>
   match cops Tb n ops ks fuel (o :: l) (setKb Γ d true).Γ,cops Tb n ops ks fuel (o :: l) (setKb Γ d false).Γ with
   | some r,some r' =>
    let Δ:=joinC ks (fun k => (r.Δ.get k).1) (fun k => (r'.Δ.get k).1)
    match weakTo r.Δ.get Δ,weakTo r'.Δ.get Δ with
    | some ρ,some ρ' => some (CR.split p (setKb Γ d true).ρ (setKb Γ d false).ρ r r' Δ ρ ρ')
    | _,_ => none
   | _,_ => none
  | none => match cop Tb n (keys Γ) (keys Γ) ops o Γ with
   | some r1 => match cops Tb n ops ks fuel l r1.Δ with
    | some r2 => some (r1.seq r2)
    | none => none
   | none => none
theorem Aee {S:Type} {x:Ex S} {e:Ent} (h:sameE x.1 e = true) {f:S -> e.pay} (hf:castE x e = some f) (s:S):(⟨e,fun _ => f s⟩:Ex Unit) = x.at s:=by
 obtain ⟨e',g⟩:=x
 cases e' <;> simp only [sameE,Bool.false_eq_true] at h
 rename_i t' m'
 cases e <;> simp only [sameE,Bool.false_eq_true] at h
 rename_i t m
 simp only [Bool.and_eq_true,decide_eq_true_eq] at h
 obtain ⟨_,rfl⟩:=h
 replace hf:castV ⟨.val t' m',g⟩ t m' = some f:=hf
 unfold castV at hf
 simp only at hf
 split at hf
 ·rename_i k _
  subst k
  split at hf
  ·cases hf; rfl
  ·cases hf
 ·cases hf
theorem Wq {S:Type} {i i':Nat} {t0 t0':Ty} {q q':List PStep} {t t':Ty} {f h:S -> List Int} (hc:castPl i i' t0 t0' q q' t t' f = some h):i' = i /\ q' = q /\ t0' = t0 /\ t' = t /\ f = h:=by
 unfold castPl at hc
 split at hc
 ·rename_i k1 k2 _ _
  split at hc
  ·rename_i hq
   cases hc
   exact ⟨hq.1,hq.2,k1.down,k2.down,rfl⟩
  ·cases hc
 ·cases hc
theorem Agk {S:Type} {x:Ex S} {e:Ent} {f:S -> e.pay} (h:castE x e = some f) (s:S):Wk (x.at s) ⟨e,fun _ => f s⟩:=by
 cases e with
 | non => exact Wk.non _
 | val t m =>
  replace h:castV x t m = some f:=h
  unfold castV at h
  split at h
  ·rename_i t' m' g
   split at h
   ·rename_i k _
    subst k
    split at h
    ·rename_i hm
     cases h
     refine ⟨(fun hx => by cases hx),?_⟩
     by_cases e:m' = m
     ·subst e; exact .inl rfl
     ·exact .inr ⟨fun _ => rfl,fun M w P tm Tf v T hn hr => RepV.coerce t' hr (hm.resolve_left e) hn⟩
    ·cases h
   ·cases h
  ·rename_i b g
   split at h
   ·rename_i k _
    subst k
    cases h
    refine ⟨(fun hx => by cases hx),.inr ⟨fun _ => rfl,fun M w P tm Tf v T hn hr => ⟨[],[],List.nil_sublist _,by simp,?_⟩⟩⟩
    obtain ⟨_,hv⟩:=hr
    simp only [RepE,RepV]
    exact ⟨hv,trivial⟩
   ·cases h
  ·cases h
 | pl i t0 q t =>
  replace h:castL x i t0 q t = some f:=h
  unfold castL at h
  split at h
  ·obtain ⟨rfl,rfl,rfl,rfl,rfl⟩:=Wq h
   exact ⟨(fun hx => by cases hx),.inl rfl⟩
  ·cases h
 | av i t0 q t =>
  replace h:castA x i t0 q t = some f:=h
  unfold castA at h
  split at h
  ·obtain ⟨rfl,rfl,rfl,rfl,rfl⟩:=Wq h
   exact ⟨(fun hx => by cases hx),.inl rfl⟩
  ·cases h
 | pa i t0 q t =>
  replace h:castB x i t0 q t = some f:=h
  unfold castB at h
  split at h
  ·obtain ⟨rfl,rfl,rfl,rfl,rfl⟩:=Wq h
   exact ⟨(fun hx => by cases hx),.inl rfl⟩
  ·cases h
 | kb b => cases h
 | und => cases h
 | pb o t =>
  replace h:castG x o t = some f:=h
  unfold castG at h
  split at h
  ·rename_i o' t' g
   split at h
   ·rename_i k _
    split at h
    ·rename_i ho
     subst ho
     have:=k.down
     subst this
     cases h
     exact ⟨(fun hx => by cases hx),.inl rfl⟩
    ·cases h
   ·cases h
  ·cases h
theorem Yj {S:Type} {g:Nat -> Ex S} (s:S):∀ {Δ:Ctx} {ρ:S -> Env Δ},weakE g Δ = some ρ -> ∀ n,dyn Δ (ρ s) n = Ex.non /\ (Δ.get n).1 = .non \/ ∃ f,castE (g n) (Δ.get n).1 = some f /\ dyn Δ (ρ s) n = ⟨(Δ.get n).1,fun _ => f s⟩
 | [],_,_,n => .inl ⟨rfl,rfl⟩
 | p :: Δ,_,h,n => by
  simp only [weakE] at h
  split at h
  ·rename_i f ρ' h1 h2
   cases h
   by_cases hp:p.1 = n
   ·subst hp
    have e:=dyn_eq (p:=p) (Γ:=Δ) (s:=(f s,ρ' s))
    right
    have hg:(Ctx.get (p :: Δ) p.1) = ⟨p.2,fun s => s.1⟩:=by simp only [Ctx.get,if_true]
    rw [hg]
    exact ⟨f,h1,e⟩
   ·have e:=dyn_ne (p:=p) (Γ:=Δ) (s:=(f s,ρ' s)) hp
    have hg:(Ctx.get (p :: Δ) n).1 = (Ctx.get Δ n).1:=by simp only [Ctx.get,if_neg hp]
    rw [hg]
    have:=Yj s h2 n
    rw [<- e] at this
    exact this
  ·cases h
theorem mem_get:∀ {Δ:Ctx} {n:Nat},(Δ.get n).1 ≠ .non -> (n,(Δ.get n).1) ∈ Δ
 | [],n,h => absurd rfl h
 | p :: Δ,n,h => by
  by_cases hp:p.1 = n
  ·subst hp
   have hg:(Ctx.get (p :: Δ) p.1).1 = p.2:=by simp only [Ctx.get,if_true]
   rw [hg]
   exact List.mem_cons_self
  ·have hg:(Ctx.get (p :: Δ) n).1 = (Ctx.get Δ n).1:=by simp only [Ctx.get,if_neg hp]
   rw [hg] at h ⊢
   exact List.mem_cons_of_mem _ (mem_get h)
theorem Aam {e:Ent} {i:Nat} (h:e.onT i = true):e.rootT = some i:=by
 cases e <;> simp only [Ent.onT,Bool.and_eq_true,beq_iff_eq,Bool.or_eq_true,Bool.not_eq_true',Bool.false_eq_true] at h
 all_goals
  obtain ⟨rfl,h⟩:=h
  simp only [Ent.rootT]
  rw [if_neg]
  rcases h with h | h <;> simp [h]
theorem Kk {S:Type} {g:Nat -> Ex S} (s:S) {Δ:Ctx} {ρ:S -> Env Δ} (h:weakTo g Δ = some ρ):FWk (atF s g) (dyn Δ (ρ s)):=by
 unfold weakTo at h
 split at h
 ·rename_i hr
  refine ⟨fun t => ?_,fun t i hi => ?_⟩
  ·rcases Yj s h t with ⟨e,_⟩ | ⟨f,hf,e⟩
   ·rw [e]; exact Wk.non _
   ·rw [e]; exact Agk hf s
  ·have hi':((Δ.get t).1).onT i = true:=hi
   have hmem:=mem_get (Δ:=Δ) (n:=t) (fun e => by rw [e] at hi'; cases hi')
   have hs:=List.all_eq_true.1 hr _ hmem
   simp only [Aam hi'] at hs
   rcases Yj s h i with ⟨_,e⟩ | ⟨f,hf,e⟩
   ·rw [e] at hs
    generalize (g i).1 = e' at hs
    cases e' <;> cases hs
   ·rw [e]
    exact Aee hs hf s
 ·cases h
theorem Ac9 {S:Type} (s:S) (ops:Array Oper) (g:Nat -> Ex S) (o:Oper):runs ops (atF s g) o = runs ops g o:=rfl
theorem Za {S:Type} (s:S) (g:Nat -> Ex S) (c:Operand):kbOf (atF s g) c = kbOf g c:=by
 cases c <;> rfl
theorem Ad9 {S:Type} (s:S) (g:Nat -> Ex S) (x:Operand):sMoveP (atF s g) x = (sMoveP g x).map (Res.at s):=by
 unfold sMoveP
 rw [opx_nat]
 cases slotOf x with
 | none => rfl
 | some i =>
  generalize opx g x = z
  obtain ⟨e,f⟩:=z
  cases e <;> try rfl
  rename_i t m
  cases t <;> try rfl
  cases m <;> rfl
theorem Ahl {S:Type} (s:S) (Tb:Tab) (K:List Nat) (g:Nat -> Ex S) (o:Oper):xop0 Tb K (atF s g) o = (xop0 Tb K g o).map (Res.at s):=by
 unfold xop0
 cases o.op <;> simp only <;> try exact sop_nat s Tb K g o
 case move x =>
  rw [Za]
  cases kbOf g x with
  | some b => rfl
  | none =>
  simp only
  cases ptrHint Tb o.dst with
  | true => simp only [if_true]; exact Ad9 s g x
  | false => simp only [Bool.false_eq_true,if_false]; exact sop_nat s Tb K g o
 rename_i c x y
 rw [Za]
 cases kbOf g c with
 | none => rfl
 | some b =>
  simp only
  rw [Za]
  cases kbOf g (if b = true then x else y) with
  | some b' => rfl
  | none =>
  simp only
  rw [opx_nat,Aaa]
  exact @ite_map _ _ _ _ _ _ _ _ _ (fun _ => rfl) (fun _ => rfl)
theorem Afy {S:Type} (s:S) (Tb:Tab) (d:Option Nat) (r:Res S):coRes Tb d (r.at s) = (coRes Tb d r).at s:=by
 unfold coRes
 cases d with
 | none => rfl
 | some d =>
  simp only
  cases Tb.dm (1000000000 + d) with
  | none => rfl
  | some m' =>
   obtain ⟨X,run,e,f,us⟩:=r
   cases e <;> rfl
theorem xop_nat {S:Type} (s:S) (Tb:Tab) (K:List Nat) (g:Nat -> Ex S) (o:Oper):xop Tb K (atF s g) o = (xop Tb K g o).map (Res.at s):=by
 unfold xop
 rw [Ahl]
 cases xop0 Tb K g o with
 | none => rfl
 | some r => simp only [Option.map_some,Afy]
theorem chk_nat {S:Type} (s:S) (n:Nat) (pin:Nat -> Bool) (K:List Nat) (g:Nat -> Ex S) (d:Option Nat) (r:Res S):chk n pin K (atF s g) d (r.at s) = chk n pin K g d r:=by
 unfold chk
 simp only [Res.at,List.all_map,List.any_map]
 rfl
theorem ws_at {S:Type} (s:S) (r:Res S) (y:r.X):(r.at s).ws y = usAt (s,y) (r.us.map fun p => (p.1,(⟨p.2.1,fun q => p.2.2 q.1 q.2⟩:Ex (S × r.X)))):=by
 unfold Res.ws Res.at usAt
 simp only [List.map_map]
 rfl
theorem Aa1 {Γ:Ctx} (r:Res (Env Γ)) (s:Env Γ) (y:r.X):(cafter r).fr (s,y) = app (dyn Γ s) ((r.at s).ws y):=by
 unfold cafter
 rw [CE.sets_fr,ws_at]
 rfl
theorem Zw {Tb:Tab} {n:Nat} {dl K:List Nat} {ops:Array Oper} {o:Oper} {Γ:Ctx} {r:CR Γ} (h:cexec Tb n dl K o Γ = some r) {s:Env Γ} {s':Env r.Δ} (hf:r.f s = some s') (hr:runs ops (dyn Γ s) o = some true) :
  ∃ (q:Res Unit) (y:q.X),xop Tb dl (dyn Γ s) o = some q /\ chk n Tb.pin K (dyn Γ s) o.dst q = true /\ q.run () = some y /\ dyn r.Δ s' = updF (dyn Γ s) o.dst ⟨q.e,fun _ => q.f () y⟩ (q.ws y):=by
 unfold cexec at h
 split at h
 ·rename_i q hx
  split at h
  ·rename_i hc
   have hx':xop Tb dl (dyn Γ s) o = some (q.at s):=by
    have:=xop_nat s Tb dl Γ.get o
    rw [hx] at this
    exact this
   have hc':chk n Tb.pin K (dyn Γ s) o.dst (q.at s) = true:=by
    have:=chk_nat s n Tb.pin K Γ.get o.dst q
    rw [hc] at this
    exact this
   split at h
   ·rename_i d hd
    cases h
    obtain ⟨y,hy,hf⟩:=bind_some hf
    cases hf
    refine ⟨q.at s,y,hx',hc',hy,?_⟩
    rw [hd]
    have e:=CE.put_fr (cafter q) d ⟨q.e,fun q' => q.f q'.1 q'.2⟩ (s,y)
    rw [Aa1] at e
    exact e
   ·rename_i hd
    cases h
    obtain ⟨y,hy,hf⟩:=bind_some hf
    cases hf
    refine ⟨q.at s,y,hx',hc',hy,?_⟩
    rw [hd]
    exact Aa1 q s y
  ·cases h
 ·cases h
theorem Ag8 {Γ:Ctx} {K:List Nat} (hk:keysB K Γ = true) (s:Env Γ):∀ t,t ∉ K -> dyn Γ s t = Ex.non:=fun t ht => Vh s fun hm => by
 rcases Bool.or_eq_true_iff.1 hk with hk | hk
 ·exact ht (eqL_eq hk ▸ hm)
 ·have:=List.all_eq_true.1 hk t hm
  exact ht (List.contains_iff_mem.1 this)
theorem cop_run {Tb:Tab} {n:Nat} {dl K:List Nat} {ops:Array Oper} {o:Oper} {Γ:Ctx} {r:CR Γ} (h:cop Tb n dl K ops o Γ = some r) {s:Env Γ} {s':Env r.Δ} (hf:r.f s = some s'):DStep Tb n ops o (dyn Γ s) (dyn r.Δ s'):=by
 unfold cop at h
 have hr:=Ac9 s ops Γ.get o
 split at h
 ·rename_i hq
  rw [hq] at hr
  split at h
  ·rename_i hk
   obtain ⟨q,y,h1,h2,h3,h4⟩:=Zw h hf hr
   rw [h4]
   exact .run dl K q y (Ag8 hk s) hr h1 h2 h3
  ·cases h
 ·rename_i hq
  rw [hq] at hr
  split at h
  ·rename_i d hd
   split at h
   ·rename_i hdn
    simp only [Bool.and_eq_true,decide_eq_true_eq,Bool.not_eq_true'] at hdn
    cases h
    cases hf
    have:=DStep.skip (Tb:=Tb) (n:=n) (ops:=ops) (o:=o) (fr:=dyn Γ s) d hr hd ⟨hdn.1.1,isG_no.1 hdn.1.2⟩ hdn.2
    have e:=CE.put_fr (CE.here Γ) d ⟨.und,fun _ => ()⟩ s
    exact (show dyn _ _ = _ from e) ▸ this
   ·cases h
  ·cases h
 ·cases h
theorem U9 (Γ:Ctx) (d:Nat) (b:Bool) (s:Env Γ):dyn (setKb Γ d b).Γ ((setKb Γ d b).ρ s) = put (dyn Γ s) d ⟨.kb b,fun _ => ()⟩:=CE.put_fr (CE.here Γ) d ⟨.kb b,fun _ => ()⟩ s
theorem Vj {Tb:Tab} {n:Nat} {ops:Array Oper} {ks:List Nat}:∀ (fuel:Nat) {l:List Oper} {Γ:Ctx} {r:CR Γ},cops Tb n ops ks fuel l Γ = some r -> ∀ {s:Env Γ} {s':Env r.Δ},r.f s = some s' ->
  ∃ fr',DRun Tb n ops l (dyn Γ s) fr' /\ FWk fr' (dyn r.Δ s')
 | 0,_,_,_,h,_,_,_ => by cases h
 | fuel + 1,[],Γ,r,h,s,s',hf => by
  simp only [cops] at h
  split at h
  ·rename_i ρ hρ
   cases h
   cases hf
   exact ⟨_,.nil _,Kk s hρ⟩
  ·cases h
 | fuel + 1,o :: l,Γ,r,h,s,s',hf => by
  simp only [cops] at h
  split at h
  ·rename_i d p hp _
   obtain ⟨m,hget⟩:=hp
   have hd:dyn Γ s d = ⟨.val .bool m,fun _ => p s⟩:=by unfold dyn; rw [hget]; rfl
   split at h
   ·rename_i r1 r2 h1 h2
    split at h
    ·rename_i ρ1 ρ2 hρ1 hρ2
     cases h
     replace hf:(if p s then (r1.f ((setKb Γ d true).ρ s)).bind (fun e => some (ρ1 e)) else (r2.f ((setKb Γ d false).ρ s)).bind (fun e => some (ρ2 e))) = some s':=hf
     cases hps:p s with
     | true =>
      rw [hps] at hf
      simp only [if_true] at hf
      obtain ⟨s1,hq,hf⟩:=bind_some hf
      cases hf
      obtain ⟨fr',k1,k2⟩:=Vj fuel h1 hq
      rw [U9] at k1
      refine ⟨fr',.known _ _ _ d m (fun _ => p s) hd ?_,k2.trans (Kk s1 hρ1)⟩
      rw [hps]
      exact k1
     | false =>
      rw [hps] at hf
      simp only [Bool.false_eq_true,if_false] at hf
      obtain ⟨s1,hq,hf⟩:=bind_some hf
      cases hf
      obtain ⟨fr',k1,k2⟩:=Vj fuel h2 hq
      rw [U9] at k1
      refine ⟨fr',.known _ _ _ d m (fun _ => p s) hd ?_,k2.trans (Kk s1 hρ2)⟩
      rw [hps]
      exact k1
    ·cases h
   ·cases h
  ·split at h
   ·rename_i r1 h1
    split at h
    ·rename_i r2 h2
     cases h
     obtain ⟨s1,hq,hf⟩:=bind_some hf
     obtain ⟨fr',k1,k2⟩:=Vj fuel h2 hf
     exact ⟨fr',.step o l _ _ _ (cop_run h1 hq) k1,k2⟩
    ·cases h
   ·cases h
section
variable {C:Cx} {fr:Fr} {a:Act} {w:World} {P:Prot} {T:Nat -> List Nat}
theorem Us {Q:Exit -> Act -> World -> Prop} {Tb:Tab} (hT:TabOk C.M Tb) (hsg:∀ f s,Tb.sg f = some s -> SigR C.M C.w0 C.P0 f s) (hpin:∀ t,Tb.pin t = false -> C.pv t = none) {id:Nat} {ops:Array Oper} {ks:List Nat} {fuel:Nat} {Γ:Ctx} {r:CR Γ}
  (hc:cops Tb C.n ops ks fuel ops.toList Γ = some r) {s:Env Γ} {s':Env r.Δ} (hf:r.f s = some s') (h:Sim C (dyn Γ s) a w P T)
  (hQ:∀ a' w' P' T',Sim C (dyn r.Δ s') a' w' P' T' -> Q .normal a' w'):(Code.region id ops false).wp C.M Q a w:=by
 obtain ⟨fr',k1,k2⟩:=Vj fuel hc hf
 refine wp_region_list (k1.sound hT hsg hpin (fun a' w' P' T' h' => ?_) h)
 obtain ⟨P'',T'',h''⟩:=h'.weak k2
 exact hQ _ _ _ _ h''
end
end Go.Abs
