/-
  The meta layer, part 20: regions whose order is left open. What an operation looks at and what it writes is known; two operations of which one writes what the other looks at or writes are tied by an edge.
-/
import Derived.Test.YtbkefganebmlnaaGreatDoorN19
import Derived.Orders
namespace Go.Abs
open Go.RowKit
set_option linter.unusedVariables false
set_option linter.unusedSimpArgs false
def opTmps (o:Op):List Nat:=o.operands.toList.filterMap fun | .tmp t => some t | _ => none
def baseOf:Ent -> List Nat | .pl i _ _ _ | .av i _ _ _ | .pa i _ _ _ => [i] | .pb o t => if t.part then [gB + o] else [] | _ => []
def guardOf (ops:Array Oper) (o:Oper):List Nat:=
 match o.guard with
 | some (j,_) => match (ops[j]?).bind (·.dst) with | some d => [d] | none => []
 | none => []
def rdOf {S:Type} (ops:Array Oper) (g:Nat -> Ex S) (o:Oper):List Nat:=
 (opTmps o.op ++ guardOf ops o) ++ (opTmps o.op).flatMap fun t => baseOf (g t).1
theorem Si {t:Nat}:∀ {W:WS} {fr fr':Fr},(fr t = fr' t \/ t ∈ wdom W) -> app fr W t = app fr' W t
 | [],fr,fr',h => by rcases h with h | h; exact h; simp [wdom] at h
 | p :: W,fr,fr',h => by
  show app (setE fr p.1 p.2) W t = app (setE fr' p.1 p.2) W t
  refine Si ?_
  by_cases hp:t = p.1
  ·left; unfold setE; rw [if_pos hp,if_pos hp]
  ·rcases h with h | h
   ·left; unfold setE; rw [if_neg hp,if_neg hp]; exact h
   ·right
    simp only [wdom,List.map_cons,List.mem_cons] at h
    exact h.resolve_left hp
def sel (L:Nat -> Bool):Nat -> List WS -> Fr -> Fr
 | _,[],fr => fr
 | i,W :: Ws,fr => sel L (i + 1) Ws (if L i then app fr W else fr)
theorem Pi {t:Nat} {L L':Nat -> Bool}:∀ {Ws:List WS} {i:Nat} {fr fr':Fr},(∀ j W,Ws[j]? = some W -> t ∈ wdom W -> L (i + j) = L' (i + j)) -> fr t = fr' t -> sel L i Ws fr t = sel L' i Ws fr' t
 | [],i,fr,fr',_,h => h
 | W :: Ws,i,fr,fr',hL,h => by
  refine Pi (Ws:=Ws) (i:=i + 1) (fun j W' hj ht => ?_) ?_
  ·have:=hL (j + 1) W' (by simpa using hj) ht
   rwa [show i + (j + 1) = i + 1 + j by omega] at this
  ·by_cases ht:t ∈ wdom W
   ·rw [show L i = L' i from hL 0 W rfl ht]
    split
    ·exact Si (.inr ht)
    ·exact h
   ·have e1:(if L i = true then app fr W else fr) t = fr t:=by split; exact app_not ht; rfl
    have e2:(if L' i = true then app fr' W else fr') t = fr' t:=by split; exact app_not ht; rfl
    rw [e1,e2,h]
theorem Q8 {L:Nat -> Bool}:∀ {Ws:List WS} {i:Nat} {fr:Fr},(∀ j,i <= j -> L j = false) -> sel L i Ws fr = fr
 | [],_,_,_ => rfl
 | W :: Ws,i,fr,h => by
  show sel L (i + 1) Ws (if L i then app fr W else fr) = fr
  rw [h i (Nat.le_refl _)]
  exact Q8 fun j hj => h j (by omega)
theorem Px:∀ {Ws:List WS} {i k:Nat} {W:WS} {fr:Fr},Ws[k]? = some W -> sel (fun j => decide (j < i + k + 1)) i Ws fr = app (sel (fun j => decide (j < i + k)) i Ws fr) W
 | [],_,_,_,_,h => by simp at h
 | W' :: Ws,i,0,W,fr,h => by
  simp only [List.getElem?_cons_zero,Option.some.injEq] at h
  subst h
  show sel _ (i + 1) Ws (if decide (i < i + 0 + 1) then app fr W' else fr) = app (sel _ (i + 1) Ws (if decide (i < i + 0) then app fr W' else fr)) W'
  rw [if_pos (by simp),if_neg (by simp),Q8 (fun j hj => decide_eq_false (by omega)),Q8 (fun j hj => decide_eq_false (by omega))]
 | W' :: Ws,i,k + 1,W,fr,h => by
  have h':Ws[k]? = some W:=by simpa using h
  show sel _ (i + 1) Ws (if decide (i < i + (k + 1) + 1) then app fr W' else fr) = app (sel _ (i + 1) Ws (if decide (i < i + (k + 1)) then app fr W' else fr)) W
  rw [if_pos (decide_eq_true (by omega)),if_pos (decide_eq_true (by omega))]
  have:=Px (i:=i + 1) (fr:=app fr W') h'
  rw [show i + (k + 1) + 1 = i + 1 + k + 1 by omega,show i + (k + 1) = i + 1 + k by omega]
  exact this
theorem Afl {L:Nat -> Bool} {t:Nat} {C:Ex Unit -> Prop}:∀ {Ws:List WS} {i:Nat} {fr:Fr},(∀ t,C (fr t)) -> (∀ W ∈ Ws,∀ p ∈ W,C p.2) -> C (sel L i Ws fr t)
 | [],i,fr,h,_ => h t
 | W :: Ws,i,fr,h,hW => by
  refine Afl (Ws:=Ws) (i:=i + 1) (fun t => ?_) (fun W' hW' => hW W' (List.mem_cons_of_mem _ hW'))
  split
  ·have:∀ (V:WS) (fr:Fr),(∀ t,C (fr t)) -> (∀ p ∈ V,C p.2) -> ∀ t,C (app fr V t):=by
    intro V
    induction V with
    | nil => intro fr h _ t; exact h t
    | cons p V ih =>
     intro fr h hV t
     refine ih (setE fr p.1 p.2) (fun t => ?_) (fun q hq => hV q (List.mem_cons_of_mem _ hq)) t
     unfold setE
     split
     ·exact hV p (by simp)
     ·exact h t
   exact this W fr h (hW W (by simp)) t
  ·exact h t
theorem Aic {S:Type} {g g':Nat -> Ex S} {x:Operand} (h:∀ t,x = .tmp t -> g t = g' t):opx g x = opx g' x:=by
 cases x with
 | tmp t => simp only [opx,h t rfl]
 | const v => cases v <;> rfl
 | global _ => rfl
 | func _ => rfl
theorem Tt {o:Op} {t:Nat} (h:Operand.tmp t ∈ o.operands.toList):t ∈ opTmps o:=by
 unfold opTmps
 exact List.mem_filterMap.2 ⟨_,h,rfl⟩
structure Agr (g g':Fr) (x:Operand):Prop where
 ex:opx g x = opx g' x
 at_:∀ i,(slotOf x = some i \/ i ∈ baseOf (opx g x).1) -> g i = g' i
section
variable {g g':Fr} {x y:Operand} (pin:Nat -> Bool)
theorem Qy {p:Plc Unit} (h:g p.i = g' p.i):look g p = look g' p:=by
 unfold look
 rw [h]
theorem Ac6 {x:Operand} {e:Ex Unit} {p:Plc Unit} (h:adrOf x e = some p):slotOf x = some p.i \/ p.i ∈ baseOf e.1:=by
 obtain ⟨e,f⟩:=e
 cases e <;> simp only [adrOf] at h <;> try (cases h; done)
 ·rename_i t m
  cases t <;> try (cases h; done)
  cases m <;> try (cases h; done)
  simp only at h
  split at h
  ·rename_i i hi; cases h; exact .inl hi
  ·cases h
 ·cases h; exact .inr (by simp [baseOf])
theorem Agq {x:Operand} {e:Ex Unit} {p:Plc Unit} (h:vluOf x e = some p):slotOf x = some p.i \/ p.i ∈ baseOf e.1:=by
 obtain ⟨e,f⟩:=e
 cases e
 case val t m =>
  simp only [vluOf] at h
  split at h
  ·rename_i i hi; cases h; exact .inl hi
  ·cases h
 case av => cases h; exact .inr (by simp [baseOf])
 case pl i t0 q t =>
  cases t0 <;> try (simp [vluOf] at h; done)
  rcases q with _ | ⟨_ | _ | _,_ | _⟩ <;> simp [vluOf] at h
  subst h
  exact .inr (by simp [baseOf])
 all_goals cases h
theorem Agr.adr (h:Agr g g' x) {p:Plc Unit} (hp:adrOf x (opx g x) = some p):look g p = look g' p:=Qy (h.at_ _ (Ac6 hp))
theorem Agr.vlu (h:Agr g g' x) {p:Plc Unit} (hp:vluOf x (opx g x) = some p):look g p = look g' p:=Qy (h.at_ _ (Agq hp))
theorem Af0 {dl:List Nat} (h:∀ t ∈ dl,g t = g' t) (i:Nat):hung dl g i = hung dl g' i:=by
 unfold hung
 congr 1
 exact List.filter_congr fun t ht => by rw [h t ht]
theorem Ni {dl:List Nat} (hd:∀ i,hung dl g i = hung dl g' i) (h:Agr g g' x):take dl pin g x = take dl pin g' x:=by
 unfold take
 rw [<- h.ex]
 have hb:=h.at_
 generalize opx g x = z at hb
 obtain ⟨e,f⟩:=z
 cases e <;> try rfl
 ·simp only [hd]
 ·rename_i i t0 q t
  simp only
  rw [Qy (g:=g) (g':=g') (p:=⟨i,t0,q,t,f⟩) (hb i (.inr (by simp [baseOf])))]
  simp only [hd]
theorem Ul {dl:List Nat} (hd:∀ i,hung dl g i = hung dl g' i) (h:Agr g g' x):sMove dl pin g x = sMove dl pin g' x:=by
 unfold sMove
 rw [<- h.ex]
 simp only [hd]
theorem Qn {dl:List Nat} (hd:∀ i,hung dl g i = hung dl g' i) (h:Agr g g' x):sAssign dl pin g x = sAssign dl pin g' x:=by
 unfold sAssign
 rw [<- h.ex,Ni pin hd h]
theorem Sv {p:Plc Unit} (h:g p.i = g' p.i):Nd g p = Nd g' p:=by
 unfold Nd
 rw [Qy h]
theorem Afh {dl:List Nat} (hd:∀ i,hung dl g i = hung dl g' i) (h:Agr g g' x):sBox dl pin g x = sBox dl pin g' x:=by
 unfold sBox sBoxT
 rw [<- h.ex,Ni pin hd h]
 have hb:=h.at_
 generalize opx g x = z at hb
 obtain ⟨e,f⟩:=z
 cases e <;> try rfl
 ·rename_i t m
  simp only
  cases hs:slotOf x with
  | none => rfl
  | some j => simp only; rw [Sv (g:=g) (g':=g') (p:=⟨j,t,[],t,fun _ => []⟩) (hb j (.inl hs))]
 ·rename_i i t0 q t
  exact Sv (p:=⟨i,t0,q,t,f⟩) (hb i (.inr (by simp [baseOf])))
theorem Nj {p:Plc Unit} (h:g p.i = g' p.i):atPlace g p = atPlace g' p:=by
 unfold atPlace
 rw [Qy h]
theorem Ad5 (h:Agr g g' x):sLoad g x (opx g x) = sLoad g' x (opx g' x):=by
 rw [<- h.ex]
 have hb:=h.at_
 have ha:∀ p,adrOf x (opx g x) = some p -> g p.i = g' p.i:=fun p hp => hb _ (Ac6 hp)
 generalize opx g x = z at hb ha
 unfold sLoad
 split
 ·rfl
 ·rename_i i t0 q t f
  exact Nj (p:=⟨i,t0,q,t,f⟩) (hb i (.inr (by simp [baseOf])))
 ·rename_i k t f
  split
  ·rename_i hk
   rw [Bool.and_eq_true] at hk
   exact Nj (p:=⟨gB + k,t,[],t,fun _ => []⟩) (hb _ (.inr (by simp [baseOf,hk.1])))
  ·rfl
 ·cases hz:adrOf x _ with
  | none => rfl
  | some p => exact Nj (ha p hz)
theorem Acb {dm:Nat -> Option Md} {dl:List Nat} (hd:∀ i,hung dl g i = hung dl g' i) (h:Agr g g' x) (hy:Agr g g' y):sStore dl pin dm g x y (opx g x) = sStore dl pin dm g' x y (opx g' x):=by
 rw [<- h.ex]
 unfold sStore
 rw [Ni pin hd hy]
 have ha:∀ p,adrOf x (opx g x) = some p -> look g p = look g' p:=fun p hp => h.adr hp
 cases hz:adrOf x (opx g x) with
 | none => rfl
 | some p => simp only; rw [ha p hz]; simp only [hd]
theorem Aab {dm:Nat -> Option Md} {dl:List Nat} (hd:∀ i,hung dl g i = hung dl g' i) (h:Agr g g' x) (hy:Agr g g' y):sStoreX dl pin dm g x y (opx g x) = sStoreX dl pin dm g' x y (opx g' x):=by
 have hs:=Acb pin (dm:=dm) hd h hy
 rw [<- h.ex] at hs ⊢
 unfold sStoreX
 split
 ·unfold sStoreG
  rw [Ni pin hd hy]
  simp only [hd]
 ·exact hs
theorem Z0 {j:Nat} (h:Agr g g' x):sFieldV g x j (opx g x) = sFieldV g' x j (opx g' x):=by
 rw [<- h.ex]
 have hb:=h.at_
 generalize opx g x = z at hb
 obtain ⟨e,f⟩:=z
 cases e <;> try rfl
 ·rename_i t m
  cases t <;> try rfl
  rename_i ts
  simp only [sFieldV]
  split
  ·rfl
  ·cases hs:slotOf x with
   | none => rfl
   | some i =>
    cases fld ts j with
    | none => rfl
    | some q => exact Nj (p:=⟨i,.st ts,[.fld j],q.1,fun _ => []⟩) (hb i (.inl hs))
 ·rename_i i t0 q t
  cases t <;> try rfl
  rename_i ts
  simp only [sFieldV]
  cases fld ts j with
  | none => rfl
  | some q' => exact Nj (p:=⟨i,t0,q ++ [.fld j],q'.1,f⟩) (hb i (.inr (by simp [baseOf])))
theorem V2 (h:Agr g g' x) (hy:Agr g g' y):Mc g x (opx g x) (opx g y) = Mc g' x (opx g' x) (opx g' y):=by
 rw [<- h.ex,<- hy.ex]
 have ha:∀ p,vluOf x (opx g x) = some p -> look g p = look g' p:=fun p hp => h.vlu hp
 generalize opx g x = z at ha
 unfold Mc
 split
 ·split
  ·rfl
  ·cases hz:vluOf x z with
   | none => rfl
   | some p =>
    have:=ha p hz
    obtain ⟨pi,pt0,pq,pt,pis⟩:=p
    cases pt <;> try rfl
    simp only
    rw [this]
 ·rfl
theorem Af2 (h:Agr g g' x):sLen g x (opx g x) = sLen g' x (opx g' x):=by
 rw [<- h.ex]
 have ha:∀ p,vluOf x (opx g x) = some p -> look g p = look g' p:=fun p hp => h.vlu hp
 generalize opx g x = z at ha
 unfold sLen
 split
 ·rfl
 ·rfl
 ·cases hz:vluOf x z with
  | none => rfl
  | some p =>
   have:=ha p hz
   obtain ⟨pi,pt0,pq,pt,pis⟩:=p
   cases pt <;> try rfl
   simp only
   rw [this]
theorem Yv {j:Nat} {dl:List Nat} (hd:∀ i,hung dl g i = hung dl g' i) (h:Agr g g' x):J1 dl g x j (opx g x) = J1 dl g' x j (opx g' x):=by
 rw [<- h.ex]
 unfold J1
 simp only [hd]
theorem Ae0 {t:Ty} (h:Agr g g' x):sArg0 g x t = sArg0 g' x t:=by
 rw [Vl,Vl,<- h.ex]
 have ha:∀ p,vluOf x (opx g x) = some p -> look g p = look g' p:=fun p hp => h.vlu hp
 generalize opx g x = z at ha
 have key:agPl g x t z = agPl g' x t z:=by
  unfold agPl
  cases hz:vluOf x z with
  | none => rfl
  | some p => simp only; rw [ha p hz]
 obtain ⟨e,f⟩:=z
 cases e <;> first | rfl | exact key
theorem X9 {G:FuncId -> Option FSig} {t:Ty} (h:Agr g g' x):sArg1 G g x t = sArg1 G g' x t:=by
 unfold sArg1
 split
 ·rfl
 ·rfl
 ·exact Ae0 h
theorem Pf {G:FuncId -> Option FSig} {im:Md}:∀ {io:Option Nat} {xs:List Operand} {ts:List Ty},(∀ x ∈ xs,Agr g g' x) -> sArgs G g im io xs ts = sArgs G g' im io xs ts
 | io,[],[],_ => by rcases io with _ | _ | _ <;> rfl
 | io,[],_ :: _,_ => by rcases io with _ | _ | _ <;> rfl
 | io,_ :: _,[],_ => by rcases io with _ | _ | _ <;> rfl
 | some 0,x :: xs,t :: ts,h => by
  have hx:=h x (by simp)
  simp only [sArgs]
  rw [<- hx.ex,Pf (io:=none) (fun z hz => h z (by simp [hz]))]
  cases hz:vluOf x (opx g x) with
  | none => rfl
  | some p => simp only; rw [hx.vlu hz]
 | none,x :: xs,t :: ts,h => by
  simp only [sArgs]
  rw [X9 (h x (by simp)),Pf (io:=none) (fun z hz => h z (by simp [hz]))]
 | some (n + 1),x :: xs,t :: ts,h => by
  simp only [sArgs]
  rw [X9 (h x (by simp)),Pf (io:=some n) (fun z hz => h z (by simp [hz]))]
theorem Ady {G:FuncId -> Option FSig} {xs:List Operand} {sg:FSig} {dl:List Nat} (hd:∀ i,hung dl g i = hung dl g' i) (h:∀ x ∈ xs,Agr g g' x):sCall G dl g xs sg = sCall G dl g' xs sg:=by
 obtain ⟨ps,cs,io,im,r,m,f⟩:=sg
 cases cs with
 | cons _ _ => rfl
 | nil =>
  simp only [sCall]
  rw [Pf h]
  simp only [hd]
theorem Aci {G:FuncId -> Option FSig} {xs:List Operand} (h:∀ x ∈ xs,Agr g g' x) (hx:Agr g g' x):sCallV G g xs (opx g x) = sCallV G g' xs (opx g' x):=by
 rw [<- hx.ex]
 unfold sCallV
 split
 ·rw [Pf h]
 ·rfl
theorem Zx {n:Nat} {o:Operand}:∀ {ps:List (Nat × Operand)},partAt n ps = some o -> o ∈ ps.map (·.2)
 | [],h => by cases h
 | p :: ps,h => by
  simp only [partAt] at h
  split at h
  ·cases h; simp
  ·exact List.mem_cons_of_mem _ (Zx h)
theorem R7 {ps:List (Nat × Operand)} {dl:List Nat} (hd:∀ i,hung dl g i = hung dl g' i) (h:∀ x ∈ ps.map (·.2),Agr g g' x):∀ {n:Nat} {ts:List Ty},sParts dl pin g ps n ts = sParts dl pin g' ps n ts
 | _,[] => rfl
 | n,t :: ts => by
  simp only [sParts]
  rw [R7 hd h (n:=n + 1) (ts:=ts)]
  cases hp:partAt n ps with
  | none => rfl
  | some o => simp only; rw [Ni pin hd (h o (Zx hp))]
theorem Ab2 {T:Tab} {t:TypeId} {ps:List (Nat × Operand)} {dl:List Nat} (hd:∀ i,hung dl g i = hung dl g' i) (h:∀ x ∈ ps.map (·.2),Agr g g' x):sBuild dl T g t ps = sBuild dl T g' t ps:=by
 unfold sBuild
 simp only [R7 T.pin hd h]
theorem U6 {T:Tab} {d:Option Nat} {t:TypeId} {n:Nat} {ps:List (Nat × Operand)} {dl:List Nat} (hd:∀ i,hung dl g i = hung dl g' i) (h:∀ x ∈ ps.map (·.2),Agr g g' x):J0 dl T g d t n ps = J0 dl T g' d t n ps:=by
 unfold J0
 simp only [R7 T.pin hd h]
theorem Zz {T:Tab} {dl:List Nat} (hd:∀ i,hung dl g i = hung dl g' i) (hx:Agr g g' x) (hy:Agr g g' y):sAppend dl T g x y = sAppend dl T g' x y:=by
 unfold sAppend
 rw [Ni T.pin hd hx,<- hy.ex]
 have h1:∀ e t c fx ux,Ot dl T g e t c fx ux y = Ot dl T g' e t c fx ux y:=fun e t c fx ux => by
  unfold Ot
  rw [Ni T.pin hd hy]
 have h2:∀ e t c fx ux,Oo g e t c fx ux y = Oo g' e t c fx ux y:=fun e t c fx ux => by
  unfold Oo
  rw [<- hy.ex]
  cases hz:vluOf y (opx g y) with
  | none => rfl
  | some p => simp only; rw [hy.vlu hz]
 simp only [h1,h2]
theorem Ab0 {T:Tab} {lo hi:Option Operand} {dl:List Nat} (hd:∀ i,hung dl g i = hung dl g' i) (hx:Agr g g' x) (hl:∀ y,lo = some y -> Agr g g' y) (hh:∀ y,hi = some y -> Agr g g' y):sSlice dl T g x lo hi = sSlice dl T g' x lo hi:=by
 have hopt:∀ o:Option Operand,(∀ y,o = some y -> Agr g g' y) -> optInt g o = optInt g' o:=fun o h => by
  cases o with
  | none => rfl
  | some o => simp only [optInt]; rw [(h o rfl).ex]
 rw [Sc,Sc,hopt lo hl,hopt hi hh,<- hx.ex]
 have:∀ l h,slTk dl T g x l h = slTk dl T g' x l h:=fun l h => by
  unfold slTk
  rw [Ni T.pin hd hx]
 unfold slIn
 simp only [this]
theorem Xx {dl:List Nat} (hd:∀ i,hung dl g i = hung dl g' i):∀ {xs:List Operand} {ts:List Ty},(∀ x ∈ xs,Agr g g' x) -> sCaps dl pin g xs ts = sCaps dl pin g' xs ts
 | [],[],_ => rfl
 | [],_ :: _,_ => rfl
 | _ :: _,[],_ => rfl
 | x :: xs,t :: ts,h => by
  simp only [sCaps]
  rw [(h x (by simp)).ex,Xx hd (xs:=xs) fun z hz => h z (by simp [hz])]
  simp only [hd]
theorem Wx {T:Tab} {f:FuncId} {xs:List Operand} {dl:List Nat} (hd:∀ i,hung dl g i = hung dl g' i) (h:∀ x ∈ xs,Agr g g' x):Ms dl T g f xs = Ms dl T g' f xs:=by
 unfold Ms
 simp only [Xx T.pin hd h]
end
theorem Acw {Tb:Tab} {ops:Array Oper} {g g':Fr} {o:Oper} {dl:List Nat} (h:∀ t ∈ rdOf ops g o,g t = g' t) (hdl:∀ t ∈ dl,g t = g' t):xop Tb dl g o = xop Tb dl g' o:=by
 unfold xop
 refine congrArg (Option.map (coRes Tb o.dst)) ?_
 have hd:=Af0 (g:=g) (g':=g') hdl
 have hx:∀ x:Operand,x ∈ o.op.operands.toList -> Agr g g' x:=fun x hx => by
  refine ⟨Aic fun t ht => ?_,fun i hi => ?_⟩
  ·subst ht
   exact h t (List.mem_append_left _ (List.mem_append_left _ (Tt hx)))
  ·cases x with
   | tmp t =>
    have hm:=Tt hx
    rcases hi with hi | hi
    ·have e:t = i:=by simpa [slotOf] using hi
     exact e ▸ h t (List.mem_append_left _ (List.mem_append_left _ hm))
    ·refine h i (List.mem_append_right _ (List.mem_flatMap.2 ⟨t,hm,?_⟩))
     simp only [opx] at hi
     split at hi
     ·simp [Ex.non,baseOf] at hi
     generalize g t = e at hi
     obtain ⟨e,f⟩:=e
     cases e <;> first | exact hi | (simp [baseOf] at hi; done)
   | const v => rcases hi with hi | hi; cases hi; cases v <;> simp [opx,baseOf,Ex.non] at hi
   | global _ => rcases hi with hi | hi; cases hi; simp [opx,baseOf,Ex.non] at hi
   | func _ => rcases hi with hi | hi; cases hi; simp [opx,baseOf,Ex.non] at hi
 have hk:∀ c:Operand,c ∈ o.op.operands.toList -> kbOf g c = kbOf g' c:=fun c hc => by
  cases c with
  | tmp t => simp only [kbOf]; rw [h t (List.mem_append_left _ (List.mem_append_left _ (Tt hc)))]
  | const v => cases v <;> rfl
  | global _ => rfl
  | func _ => rfl
 unfold xop0 sop
 cases ho:o.op
 all_goals rw [ho] at hx hk
 all_goals try rfl
 case pick c x y =>
  simp only
  rw [hk c (by simp [Op.operands])]
  cases kbOf g' c with
  | none => rfl
  | some b =>
   cases b
   ·have e:=hx y (by simp [Op.operands])
    simp only [Bool.false_eq_true,if_false,e.ex,Ul Tb.pin hd e,hk y (by simp [Op.operands])]
   ·have e:=hx x (by simp [Op.operands])
    simp only [if_true,e.ex,Ul Tb.pin hd e,hk x (by simp [Op.operands])]
 case move x =>
  have e:=hx x (by simp [Op.operands])
  have eP:sMoveP g x = sMoveP g' x:=by
   unfold sMoveP
   rw [e.ex]
  simp only
  rw [hk x (by simp [Op.operands]),eP,Ul Tb.pin hd e]
 case assign x =>
  have e:=hx x (by simp [Op.operands])
  cases x with
  | const v => rfl
  | tmp t => exact Qn Tb.pin hd e
  | global t => exact Qn Tb.pin hd e
  | func t => exact Qn Tb.pin hd e
 case box t x => exact Afh Tb.pin hd (hx x (by simp [Op.operands]))
 case load t x =>
  have e:=hx x (by simp [Op.operands])
  simp only
  rw [Ad5 e,e.ex]
 case store t x v =>
  have e:=hx x (by simp [Op.operands])
  have e':=hx v (by simp [Op.operands])
  simp only
  rw [Aab Tb.pin hd e e',e.ex]
 case nilCheck x => simp only; rw [(hx x (by simp [Op.operands])).ex]
 case unOp p t x => simp only; rw [(hx x (by simp [Op.operands])).ex]
 case fieldAddr t x j => simp only; rw [(hx x (by simp [Op.operands])).ex]
 case field t x j =>
  have e:=hx x (by simp [Op.operands])
  simp only
  rw [Z0 e,e.ex]
 case extract x j => exact Yv hd (hx x (by simp [Op.operands]))
 case binOp p t x y t' => simp only; rw [(hx x (by simp [Op.operands])).ex,(hx y (by simp [Op.operands])).ex]
 case index t x y => simp only; rw [(hx x (by simp [Op.operands])).ex,(hx y (by simp [Op.operands])).ex]
 case indexAddr t x y =>
  have e:=hx x (by simp [Op.operands])
  have e':=hx y (by simp [Op.operands])
  simp only
  rw [V2 e e',e.ex]
 case build t ps =>
  refine Ab2 hd fun x hm => hx x ?_
  simpa [Op.operands] using hm
 case buildSlice t n ps =>
  refine U6 hd fun x hm => hx x ?_
  simpa [Op.operands] using hm
 case makeSlice t l c => simp only; rw [(hx l (by simp [Op.operands])).ex,(hx c (by simp [Op.operands])).ex]
 case slice t x lo hi mx =>
  cases mx with
  | some _ => rfl
  | none =>
   have e:=hx x (by simp [Op.operands])
   simp only
   rw [Ab0 hd e (fun y hy => hx y (by subst hy; simp [Op.operands])) (fun y hy => hx y (by subst hy; simp [Op.operands])),e.ex]
 case convert a b x => simp only; rw [(hx x (by simp [Op.operands])).ex]
 case makeFunc f fs cs =>
  cases f <;> try rfl
  simp only
  rw [Wx hd fun x hm => hx x (by simp only [Op.operands,Array.toList_append,List.mem_append]; exact .inr hm)]
 case call c =>
  have hma:∀ x,x ∈ c.args.toList -> x ∈ (Op.call c).operands.toList:=fun x hm => by
   simp only [Op.operands,Call.operands,Array.toList_append,List.mem_append]
   exact .inr hm
  have hmc:∀ x,c.callee = .value x -> x ∈ (Op.call c).operands.toList:=fun x hm => by
   simp only [Op.operands,Call.operands,hm,Array.toList_append,List.mem_append]
   exact .inl (by simp)
  simp only
  split
  ·split
   ·exact Ady hd fun x hm => hx x (hma x hm)
   ·rfl
  ·exact Aci (fun x hm => hx x (hma x hm)) (hx _ (hmc _ (by assumption)))
  ·split
   ·rename_i x t ha _
    have e:=hx x (hma x (by rw [ha]; simp))
    rw [Af2 e,e.ex]
   ·rfl
  ·split
   ·rename_i x y ha
    rw [(hx x (hma x (by rw [ha]; simp))).ex,(hx y (hma y (by rw [ha]; simp))).ex]
   ·rfl
  ·split
   ·rename_i x y ha
    rw [(hx x (hma x (by rw [ha]; simp))).ex,(hx y (hma y (by rw [ha]; simp))).ex]
   ·rfl
  ·split
   ·rename_i x y t t' ha _
    have e:=hx x (hma x (by rw [ha]; simp))
    have e':=hx y (hma y (by rw [ha]; simp))
    rw [Zz hd e e',e.ex,e'.ex]
   ·rfl
  ·rfl
theorem Aix {ops:Array Oper} {g g':Fr} {o:Oper} (h:∀ t ∈ rdOf ops g o,g t = g' t):runs ops g o = runs ops g' o:=by
 have hg:∀ t ∈ guardOf ops o,g t = g' t:=fun t ht => h t (List.mem_append_left _ (List.mem_append_right _ ht))
 unfold runs
 unfold guardOf at hg
 cases hgd:o.guard with
 | none => rfl
 | some q =>
  obtain ⟨j,b⟩:=q
  rw [hgd] at hg
  simp only at hg ⊢
  cases hd:(ops[j]?).bind (·.dst) with
  | none => rfl
  | some d =>
   rw [hd] at hg
   simp only
   rw [hg d (by simp)]
def kindE:Ent -> Option Ty
 | .val t m => if t.fz m then none else match t with
  | .tup _ => none
  | .ptr t' => match m with | .u _ => some (.ptr t') | _ => none
  | t => some t
 | _ => none
theorem Q3 {x:Ex Unit} {t:Ty} (h:kindE x.1 = some t):∃ m f,x = ⟨.val t m,f⟩ /\ t.fz m = false /\ (∀ ts,t ≠ .tup ts) /\ ∀ t',t = .ptr t' -> ∃ m',m = .u m':=by
 obtain ⟨e,f⟩:=x
 cases e with
 | val t0 m =>
  simp only [kindE] at h
  split at h
  ·cases h
  ·rename_i hz
   have hz':t0.fz m = false:=by simpa using hz
   cases t0 with
   | tup ts => cases h
   | ptr t' =>
    cases m with
    | u m' => cases h; exact ⟨_,f,rfl,hz',fun ts => by simp,fun t' _ => ⟨m',rfl⟩⟩
    | _ => cases h
   | _ => cases h; exact ⟨_,f,rfl,hz',fun ts => by simp,fun t' e => by cases e⟩
 | _ => cases h
theorem Aag {g:Fr} {i:Nat} {t:Ty} (h:kindE (g i).1 = some t):kbOf g (.tmp i) = none:=by
 obtain ⟨m,f,e,-⟩:=Q3 h
 simp only [kbOf,e]
 split <;> rfl
theorem Adp {pin:Nat -> Bool} {dl dl':List Nat} {g g':Fr} {i:Nat} {t:Ty} (h:kindE (g i).1 = some t) (h':kindE (g' i).1 = some t):sMove dl pin g (.tmp i) = sMove dl' pin g' (.tmp i):=by
 obtain ⟨m,f,e,z,n1,n2⟩:=Q3 h
 obtain ⟨m',f',e',z',-,n2'⟩:=Q3 h'
 by_cases hg:isG i = true
 ·have o:opx g (.tmp i) = Ex.non:=by unfold opx; simp only [if_pos hg]
  have o':opx g' (.tmp i) = Ex.non:=by unfold opx; simp only [if_pos hg]
  unfold sMove
  rw [o,o']
  rfl
 have o:opx g (.tmp i) = ⟨.val t m,f⟩:=by
  unfold opx
  simp only [e,if_neg hg]
 have o':opx g' (.tmp i) = ⟨.val t m',f'⟩:=by
  unfold opx
  simp only [e',if_neg hg]
 unfold sMove
 rw [o,o']
 simp only [z,z',Bool.false_eq_true,if_false]
 cases t with
 | tup ts => exact absurd rfl (n1 ts)
 | ptr t' =>
  obtain ⟨k,rfl⟩:=n2 t' rfl
  obtain ⟨k',rfl⟩:=n2' t' rfl
  rfl
 | _ => rfl
theorem Abt {g g':Fr} {i:Nat} {t:Ty} (h:kindE (g i).1 = some t) (h':kindE (g' i).1 = some t):sMoveP g (.tmp i) = sMoveP g' (.tmp i):=by
 obtain ⟨m,f,e,z,n1,n2⟩:=Q3 h
 obtain ⟨m',f',e',z',-,n2'⟩:=Q3 h'
 by_cases hg:isG i = true
 ·have o:opx g (.tmp i) = Ex.non:=by unfold opx; simp only [if_pos hg]
  have o':opx g' (.tmp i) = Ex.non:=by unfold opx; simp only [if_pos hg]
  unfold sMoveP
  rw [o,o']
 have o:opx g (.tmp i) = ⟨.val t m,f⟩:=by
  unfold opx
  simp only [e,if_neg hg]
 have o':opx g' (.tmp i) = ⟨.val t m',f'⟩:=by
  unfold opx
  simp only [e',if_neg hg]
 unfold sMoveP
 rw [o,o']
 cases t with
 | ptr t' =>
  obtain ⟨k,rfl⟩:=n2 t' rfl
  obtain ⟨k',rfl⟩:=n2' t' rfl
  rfl
 | _ => rfl
def softMv (Z:List Nat) (o:Oper):Option Nat:=match o.op with
 | .move (.tmp t) => if Z.contains t then some t else none
 | _ => none
def sB:Nat:=1073741824
def tupM (ts:List Ty) (m:Md) (n:Nat):Option Md:=match fld ts n with
 | some q => if q.1.fz (m.nth n) then some (m.nth n) else none
 | none => none
def tupK (x:Ex Unit):Option ((ts:List Ty) × (Ty.dens ts × (Nat -> Option Md))):=match x with
 | ⟨.val (.tup ts) m,f⟩ => some ⟨ts,f (),tupM ts m⟩
 | _ => none
def softEx {S:Type} (g:Nat -> Ex S) (o:Oper):Option Nat:=match o.op with
 | .extract (.tmp t) n => match (g t).1 with
  | .val (.tup ts) m => match tupM ts m n with
   | some _ => some t
   | none => none
  | _ => none
 | _ => none
def swOf (o:Oper):Option Nat:=match o.op with
 | .extract (.tmp t) _ => if o.dst == some t then none else some t
 | _ => none
def wrX (o:Oper) (wr:List Nat):List Nat:=wr ++ (wr.filter fun t => swOf o != some t).map (· + sB)
theorem wrX_in {o:Oper} {wr:List Nat} {t:Nat} (h:t ∈ wr):t ∈ wrX o wr:=List.mem_append_left _ h
theorem Ah3 {o:Oper} {wr:List Nat} {t:Nat} (h:t ∈ wr) (hn:swOf o ≠ some t):t + sB ∈ wrX o wr:=
 List.mem_append_right _ (List.mem_map.2 ⟨t,List.mem_filter.2 ⟨h,by simpa using hn⟩,rfl⟩)
theorem Aap {ts:List Ty} {m:Md} {n:Nat} {c:Md} (h:tupM ts m n = some c):∃ q,fld ts n = some q /\ q.1.fz (m.nth n) = true /\ m.nth n = c:=by
 unfold tupM at h
 split at h
 ·rename_i q hq
  split at h
  ·rename_i hz; cases h; exact ⟨q,hq,hz,rfl⟩
  ·cases h
 ·cases h
theorem Aa6 {dl dl':List Nat} {g g':Fr} {t n:Nat} {ts:List Ty} {m:Md} (h:(g t).1 = .val (.tup ts) m) (hm:(tupM ts m n).isSome = true) (hk:tupK (g t) = tupK (g' t)) :
  J1 dl g (.tmp t) n (opx g (.tmp t)) = J1 dl' g' (.tmp t) n (opx g' (.tmp t)):=by
 by_cases hg:isG t = true
 ·have o:opx g (.tmp t) = Ex.non:=by unfold opx; simp only [if_pos hg]
  have o':opx g' (.tmp t) = Ex.non:=by unfold opx; simp only [if_pos hg]
  rw [o,o']
  rfl
 obtain ⟨c,hc⟩:=Option.isSome_iff_exists.1 hm
 have o:opx g (.tmp t) = g t:=by
  unfold opx
  simp only [if_neg hg]
  cases hx:g t with
  | mk e f => rw [hx] at h; subst h; rfl
 have o':opx g' (.tmp t) = g' t:=by
  unfold opx
  simp only [if_neg hg]
  cases hx:g' t with
  | mk e f =>
   cases e <;> first | rfl | skip
   exfalso
   rw [hx] at hk
   cases hy:g t with
   | mk e1 f1 => rw [hy] at h hk; subst h; cases hk
 rw [o,o']
 generalize g t = x at h hk
 generalize g' t = x' at hk
 obtain ⟨e,f⟩:=x
 obtain ⟨e',f'⟩:=x'
 simp only at h
 subst h
 cases e' with
 | val t' m' =>
  cases t' with
  | tup ts' =>
   have h1:=Option.some.inj hk
   obtain rfl:ts = ts':=congrArg Sigma.fst h1
   have h2:=eq_of_heq (Sigma.mk.inj h1).2
   have hf:f () = f' ():=congrArg Prod.fst h2
   have hM:tupM ts m = tupM ts m':=congrArg Prod.snd h2
   obtain ⟨q,hq,hz,hcn⟩:=Aap hc
   rw [hM] at hc
   obtain ⟨q',hq',hz',hcn'⟩:=Aap hc
   rw [hq] at hq'
   cases hq'
   obtain ⟨ty,get,set⟩:=q
   have hff:f = f':=funext fun _ => hf
   subst hff
   unfold J1
   simp only [slotOf,hq,hcn,hcn'] at hz hz' ⊢
   simp only [if_pos hz]
   have hmm:=hcn.trans hcn'.symm
   generalize m.nth n = a at hmm ⊢
   generalize m'.nth n = b at hmm ⊢
   subst hmm
   rfl
  | _ => cases hk
 | _ => cases hk
theorem Abn {g:Fr} {o:Oper} {t:Nat} (h:softEx g o = some t):∃ n ts m,o.op = .extract (.tmp t) n /\ (g t).1 = .val (.tup ts) m /\ (tupM ts m n).isSome = true:=by
 unfold softEx at h
 split at h
 ·rename_i t' n hop
  split at h
  ·rename_i ts m hg
   split at h
   ·rename_i c hc
    cases h
    exact ⟨n,ts,m,hop,hg,by rw [hc]; rfl⟩
   ·cases h
  ·cases h
 ·cases h
def rdZ {S:Type} (Z:List Nat) (ops:Array Oper) (g:Nat -> Ex S) (o:Oper):List Nat:=match softEx g o with
 | some t => guardOf ops o ++ [t + sB]
 | none => match softMv Z o with
  | some t => match kindE (g t).1 with
   | some _ => guardOf ops o
   | none => rdOf ops g o
  | none => rdOf ops g o
theorem Afz {Z:List Nat} {ops:Array Oper} {g:Fr} {o:Oper} {t:Nat} (h:t ∈ guardOf ops o):t ∈ rdZ Z ops g o:=by
 have h1:t ∈ rdOf ops g o:=List.mem_append_left _ (List.mem_append_right _ h)
 unfold rdZ
 split
 ·exact List.mem_append_left _ h
 split
 ·split
  ·exact h
  ·exact h1
 ·exact h1
theorem Ad4 {Z:List Nat} {ops:Array Oper} {g g':Fr} {o:Oper} (h:∀ t ∈ rdZ Z ops g o,g t = g' t):runs ops g o = runs ops g' o:=by
 have hg:∀ t ∈ guardOf ops o,g t = g' t:=fun t ht => h t (Afz ht)
 unfold runs
 unfold guardOf at hg
 cases hgd:o.guard with
 | none => rfl
 | some q =>
  obtain ⟨j,b⟩:=q
  rw [hgd] at hg
  simp only at hg ⊢
  cases hd:(ops[j]?).bind (·.dst) with
  | none => rfl
  | some d =>
   rw [hd] at hg
   simp only
   rw [hg d (by simp)]
theorem Afp {Z:List Nat} {Tb:Tab} {ops:Array Oper} {g g':Fr} {o:Oper} {dl:List Nat} (h:∀ t ∈ rdZ Z ops g o,g t = g' t) (hk:∀ t ∈ Z,kindE (g t).1 = kindE (g' t).1) (hs:∀ t,t + sB ∈ rdZ Z ops g o -> tupK (g t) = tupK (g' t)) (hdl:∀ t ∈ dl,g t = g' t):xop Tb dl g o = xop Tb dl g' o:=by
 unfold rdZ at h hs
 split at h
 ·rename_i t hx
  obtain ⟨n,ts,m,hop,hg,hm⟩:=Abn hx
  rw [hx] at hs
  have:=hs t (List.mem_append_right _ (by simp))
  unfold xop xop0
  simp only [hop,sop]
  rw [Aa6 (dl:=dl) (dl':=dl) hg hm this]
 clear hs
 split at h
 ·rename_i t hs
  split at h
  ·rename_i ty hty
   unfold softMv at hs
   split at hs
   ·rename_i t' hop
    split at hs
    ·rename_i hz
     cases hs
     have hk':=hk t (by simpa using hz)
     unfold xop xop0
     simp only [hop,sop]
     rw [Aag hty,Aag (hk' ▸ hty)]
     simp only
     rw [Adp (dl:=dl) (dl':=dl) hty (hk' ▸ hty),Abt hty (hk' ▸ hty)]
    ·cases hs
   ·cases hs
  ·exact Acw h hdl
 ·exact Acw h hdl
def sameK (a b:Ent):Bool:=match kindE a,kindE b with
 | some t,some t' => match Ty.same t t' with | some _ => true | none => false
 | none,none => true
 | _,_ => false
theorem Agj {a b:Ent} (h:sameK a b = true):kindE a = kindE b:=by
 unfold sameK at h
 split at h
 ·rename_i t t' h1 h2
  split at h
  ·rename_i k _
   rw [h1,h2,k.1]
  ·cases h
 ·rename_i h1 h2
  rw [h1,h2]
 ·cases h
end Go.Abs
