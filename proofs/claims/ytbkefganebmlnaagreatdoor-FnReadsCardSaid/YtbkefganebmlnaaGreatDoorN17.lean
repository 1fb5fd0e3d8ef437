/-
  The meta layer, part 17: frames whose entries are known ahead, and their contents as a tuple.
-/
import Derived.Test.YtbkefganebmlnaaGreatDoorN16
namespace Go.Abs
open Go.RowKit
set_option linter.unusedVariables false
set_option linter.unusedSimpArgs false
universe u v
def Ex.at {S:Type} (s:S) (x:Ex S):Ex Unit:=⟨x.1,fun _ => x.2 s⟩
def usAt {S:Type} (s:S) (us:List (Nat × Ex S)):List (Nat × Ex Unit):=us.map fun p => (p.1,p.2.at s)
def Res.at {S:Type} (s:S) (r:Res S):Res Unit:=⟨r.X,fun _ => r.run s,r.e,fun _ y => r.f s y,r.us.map fun p => (p.1,⟨p.2.1,fun _ y => p.2.2 s y⟩)⟩
def Plc.at {S:Type} (s:S) (p:Plc S):Plc Unit:=⟨p.i,p.t0,p.q,p.t,fun _ => p.is s⟩
def Lk.at {S:Type} (s:S) {t:Ty} (k:Lk S t):Lk Unit t:=⟨k.i,k.t0,k.m,k.q,fun _ => k.f s,fun _ => k.is s,k.get,k.set⟩
def Tkn.at {S:Type} (s:S) (k:Tkn S):Tkn Unit:=⟨k.t,k.m,fun _ => k.f s,usAt s k.us⟩
def Arg.at {S:Type} (s:S) {t:Ty} (k:Arg S t):Arg Unit t:=⟨fun _ => k.f s,k.lend⟩
def Args.at {S:Type} (s:S) {ts:List Ty} (k:Args S ts):Args Unit ts:=⟨fun _ => k.f s,k.lend⟩
def Io.at {S:Type} (s:S) (k:Io S):Io Unit:=⟨k.t,k.k.at s⟩
def Parts.at {S:Type} (s:S) {ts:List Ty} (k:Parts S ts):Parts Unit ts:=⟨k.m,fun _ => k.f s,usAt s k.us⟩
theorem ite_map {α:Type u} {β:Type v} {c:Prop} [Decidable c] {x y:Option α} {f:α -> β} {x' y':Option β} (h1:c -> x' = x.map f) (h2:¬ c -> y' = y.map f):(if c then x' else y') = (if c then x else y).map f:=by
  by_cases hc:c
  · rw [if_pos hc,if_pos hc]; exact h1 hc
  · rw [if_neg hc,if_neg hc]; exact h2 hc
theorem Ra {α:Type u} {β:Type v} {c c':Prop} [Decidable c] [Decidable c'] {x y:Option α} {f:α -> β} {x' y':Option β} (hc:c ↔ c') (h1:c -> x' = x.map f) (h2:¬ c -> y' = y.map f):(if c then x' else y') = (if c' then x else y).map f:=by
  by_cases h:c
  · rw [if_pos h,if_pos (hc.1 h)]; exact h1 h
  · rw [if_neg h,if_neg (fun h' => h (hc.2 h'))]; exact h2 h
theorem map_ite {α:Type u} {β:Type v} (c:Prop) [Decidable c] (x y:Option α) (f:α -> β):(if c then x else y).map f = if c then x.map f else y.map f:=by split <;> rfl
section
variable {S:Type} (s:S)
abbrev atF (g:Nat -> Ex S):Nat -> Ex Unit:=fun n => (g n).at s
theorem opx_nat (g:Nat -> Ex S) (x:Operand):opx (atF s g) x = (opx g x).at s:=by
  cases x with
  | tmp t =>
    simp only [opx,atF]
    by_cases hg:isG t = true
    · rw [if_pos hg,if_pos hg]; rfl
    rw [if_neg hg,if_neg hg]
    generalize g t = y
    obtain ⟨e,f⟩:=y
    cases e <;> rfl
  | const v => cases v <;> rfl
  | global _ => rfl
  | func _ => rfl
theorem V5 (o:Operand) (x:Ex S):adrOf o (x.at s) = (adrOf o x).map (Plc.at s):=by
  obtain ⟨e,f⟩:=x
  cases e <;> try rfl
  rename_i t m
  cases t <;> try rfl
  cases m <;> try rfl
  simp only [Ex.at,adrOf]
  cases slotOf o <;> rfl
theorem Xt (o:Operand) (e:Ent) (f:S -> e.pay):adrOf o ⟨e,fun _ => f s⟩ = (adrOf o ⟨e,f⟩).map (Plc.at s):=V5 s o ⟨e,f⟩
theorem Q2 (o:Operand) (x:Ex S):vluOf o (x.at s) = (vluOf o x).map (Plc.at s):=by
  obtain ⟨e,f⟩:=x
  cases e <;> try rfl
  · simp only [Ex.at,vluOf]
    cases slotOf o <;> rfl
  · rename_i i t0 q t
    cases t0 <;> try rfl
    rcases q with _ | ⟨_ | _ | _,_ | _⟩ <;> rfl
theorem Nv (g:Nat -> Ex S) (p:Plc S):look (atF s g) (p.at s) = (look g p).map (Lk.at s):=by
  obtain ⟨i,t0,q,t,is⟩:=p
  unfold look
  simp only [Plc.at,atF]
  generalize g i = z
  obtain ⟨e,f⟩:=z
  cases e <;> try rfl
  rename_i t' m
  simp only [Ex.at]
  cases Ty.same t' t0 with
  | none => rfl
  | some k =>
    obtain ⟨k⟩:=k
    subst k
    simp only
    cases t'.subT q t with
    | none => rfl
    | some gs =>
      obtain ⟨get,set⟩:=gs
      simp only
      exact @ite_map _ _ _ _ _ _ _ _ _ (fun _ => rfl) (fun _ => rfl)
theorem Mt (ds:List Nat) (g:Nat -> Ex S) (i:Nat):hung ds (atF s g) i = usAt s (hung ds g i):=by
  unfold hung usAt
  rw [List.map_map]
  rfl
theorem Vr (l l':List (Nat × Ex S)):usAt s (l ++ l') = usAt s l ++ usAt s l':=List.map_append
theorem Mp (l:List (Nat × Ex S)) (p:Nat -> Bool):(usAt s l).all (fun u => p u.1) = l.all fun u => p u.1:=by
  unfold usAt
  rw [List.all_map]
  rfl
theorem usX_nat {X:Type} (l:List (Nat × Ex S)):(usX (usAt s l):List (Nat × ((e:Ent) × (Unit -> X -> e.pay)))) = (usX l:List (Nat × ((e:Ent) × (S -> X -> e.pay)))).map fun p => (p.1,⟨p.2.1,fun _ y => p.2.2 s y⟩):=by
  unfold usX usAt
  rw [List.map_map,List.map_map]
  rfl
theorem Ol (ds:List Nat) (pin:Nat -> Bool) (g:Nat -> Ex S) (o:Operand):take ds pin (atF s g) o = (take ds pin g o).map (Tkn.at s):=by
  unfold take
  rw [opx_nat]
  generalize opx g o = z
  obtain ⟨e,f⟩:=z
  cases e <;> try rfl
  · rename_i t m
    simp only [Ex.at]
    refine @ite_map _ _ _ _ _ _ _ _ _ (fun _ => ?_) (fun _ => ?_)
    · rfl
    · cases slotOf o with
      | none => rfl
      | some i =>
        refine @ite_map _ _ _ _ _ _ _ _ _ (fun _ => ?_) (fun _ => ?_)
        · rfl
        · simp only [Option.map_some,Mt]; rfl
  · rename_i i t0 q t
    simp only [Ex.at]
    have:=Nv s g ⟨i,t0,q,t,f⟩
    simp only [Plc.at] at this
    rw [this]
    cases look g ⟨i,t0,q,t,f⟩ with
    | none => rfl
    | some k =>
      simp only [Option.map_some]
      refine @ite_map _ _ _ _ _ _ _ _ _ (fun _ => ?_) (fun _ => ?_)
      · rfl
      · refine @ite_map _ _ _ _ _ _ _ _ _ (fun _ => ?_) (fun _ => ?_)
        · simp only [Option.map_some,Mt]; rfl
        · refine @ite_map _ _ _ _ _ _ _ _ _ (fun _ => ?_) (fun _ => ?_)
          · simp only [Option.map_some,Mt]; rfl
          · exact @ite_map _ _ _ _ _ _ _ _ _ (fun _ => rfl) (fun _ => rfl)
theorem Aaa (ds:List Nat) (pin:Nat -> Bool) (g:Nat -> Ex S) (o:Operand):sMove ds pin (atF s g) o = (sMove ds pin g o).map (Res.at s):=by
  unfold sMove
  rw [opx_nat]
  generalize opx g o = z
  obtain ⟨e,f⟩:=z
  cases e <;> try rfl
  rename_i t m
  simp only [Ex.at]
  refine @ite_map _ _ _ _ _ _ _ _ _ (fun _ => ?_) (fun _ => ?_)
  · rfl
  · cases slotOf o with
    | none => cases t <;> rfl
    | some i =>
      cases t <;> try rfl
      · rename_i ts _
        refine @ite_map _ _ _ _ _ _ _ _ _ (fun _ => rfl) (fun _ => ?_)
        have h:=usX_nat s (X:=Unit) ((i,Ex.non) :: hung ds g i)
        have e:usAt s ((i,Ex.non) :: hung ds g i) = (i,Ex.non) :: hung ds (atF s g) i:=by rw [Mt]; rfl
        rw [e] at h
        exact congrArg (fun us => some (⟨Unit,fun _ => some (),.val (.tup ts) m,fun _ _ => f s,us⟩:Res Unit)) h
      · cases m <;> rfl
theorem Ab8 (ds:List Nat) (pin:Nat -> Bool) (g:Nat -> Ex S) (o:Operand):sAssign ds pin (atF s g) o = (sAssign ds pin g o).map (Res.at s):=by
  unfold sAssign
  rw [opx_nat,Ol]
  generalize opx g o = z
  obtain ⟨e,f⟩:=z
  cases e <;> try rfl
  all_goals
    simp only [Ex.at]
    cases take ds pin g o with
    | none => rfl
    | some k => exact congrArg (fun us => some (⟨k.t.den,fun _ => k.f s,.val k.t k.m,fun _ y => y,us⟩:Res Unit)) (usX_nat s k.us)
theorem Um (g:Nat -> Ex S) (p:Plc S):Nd (atF s g) (p.at s) = (Nd g p).map (Res.at s):=by
  unfold Nd
  rw [Nv]
  cases look g p with
  | none => rfl
  | some k =>
    simp only [Option.map_some]
    show (if p.t.cell = true then _ else _) = _
    exact @ite_map _ _ _ _ _ _ _ _ _ (fun _ => rfl) (fun _ => rfl)
theorem Aa0 (ds:List Nat) (pin:Nat -> Bool) (g:Nat -> Ex S) (o:Operand):sBoxT ds pin (atF s g) o = (sBoxT ds pin g o).map (Res.at s):=by
  unfold sBoxT
  rw [Ol]
  cases take ds pin g o with
  | none => rfl
  | some k =>
    simp only [Option.map_some]
    show (if k.t.cell = true then _ else _) = _
    refine @ite_map _ _ _ _ _ _ _ _ _ (fun _ => ?_) (fun _ => ?_)
    · exact congrArg (fun us => some (⟨k.t.den,fun _ => k.f s,.val (.ptr k.t) (.u k.m),fun _ y => y,us⟩:Res Unit)) (usX_nat s k.us)
    · rfl
theorem Ah5 (ds:List Nat) (pin:Nat -> Bool) (g:Nat -> Ex S) (o:Operand):sBox ds pin (atF s g) o = (sBox ds pin g o).map (Res.at s):=by
  unfold sBox
  rw [opx_nat]
  generalize opx g o = z
  obtain ⟨e,f⟩:=z
  cases e <;> try rfl
  · rename_i t m
    simp only [Ex.at]
    cases slotOf o with
    | none => exact Aa0 s ds pin g o
    | some j =>
      refine @ite_map _ _ _ _ _ _ _ _ _ (fun _ => ?_) (fun _ => ?_)
      · exact Um s g ⟨j,t,[],t,fun _ => []⟩
      · exact Aa0 s ds pin g o
  · rename_i i t0 q t
    exact Um s g ⟨i,t0,q,t,f⟩
theorem M4 (g:Nat -> Ex S) (p:Plc S):atPlace (atF s g) (p.at s) = (atPlace g p).map (Res.at s):=by
  unfold atPlace
  rw [Nv]
  cases look g p with
  | none => rfl
  | some k =>
    simp only [Option.map_some]
    show (if p.t.fz (k.m.at k.q) = true then _ else _) = _
    exact @ite_map _ _ _ _ _ _ _ _ _ (fun _ => rfl) (fun _ => rfl)
theorem Ac0 (g:Nat -> Ex S) (o:Operand) (e:Ent) (f:S -> e.pay):(match adrOf o ⟨e,fun _ => f s⟩ with | some p => atPlace (atF s g) p | none => none) = (match adrOf o ⟨e,f⟩ with | some p => atPlace g p | none => none).map (Res.at s):=by
  rw [Xt]
  cases adrOf o ⟨e,f⟩ with
  | none => rfl
  | some p => exact M4 s g p
theorem Aff (g:Nat -> Ex S) (o:Operand) (x:Ex S):sLoad (atF s g) o (x.at s) = (sLoad g o x).map (Res.at s):=by
  obtain ⟨e,f⟩:=x
  cases e <;> try (simp only [Ex.at,sLoad]; exact Ac0 s g o _ f)
  · rename_i t m
    cases t <;> try (simp only [Ex.at,sLoad]; exact Ac0 s g o _ f)
    cases m <;> try rfl
    simp only [Ex.at,sLoad,adrOf]
    cases slotOf o with
    | none => rfl
    | some i => exact M4 s g ⟨i,.ptr _,[.drf],_,fun _ => []⟩
  · exact M4 s g ⟨_,_,_,_,f⟩
  · rename_i k t
    simp only [Ex.at,sLoad]
    by_cases hk:(t.part && Nat.ble (k + 1) 64) = true
    · rw [if_pos hk,if_pos hk]; exact M4 s g ⟨gB + k,t,[],t,fun _ => []⟩
    · rw [if_neg hk,if_neg hk]; rfl
theorem Aex (ds:List Nat) (pin:Nat -> Bool) (dm:Nat -> Option Md) (g:Nat -> Ex S) (o vo:Operand) (x:Ex S):sStore ds pin dm (atF s g) o vo (x.at s) = (sStore ds pin dm g o vo x).map (Res.at s):=by
  unfold sStore
  rw [V5]
  cases adrOf o x with
  | none => rfl
  | some p =>
    simp only [Option.map_some]
    rw [Nv]
    cases look g p with
    | none => rfl
    | some k =>
      simp only [Option.map_some]
      rw [Ol]
      cases take ds pin g vo with
      | none => rfl
      | some v =>
        obtain ⟨pi,pt0,pq,pt,pis⟩:=p
        obtain ⟨vt,vm,vf,vus⟩:=v
        simp only [Option.map_some,Tkn.at,Plc.at]
        cases Ty.same vt pt with
        | none => rfl
        | some e =>
          obtain ⟨e⟩:=e
          subst e
          simp only [Lk.at]
          have hh:((usAt s vus).all fun u => u.1 != k.i && (hung ds (atF s g) k.i).all fun u' => u'.1 != u.1) = vus.all fun u => u.1 != k.i && (hung ds g k.i).all fun u' => u'.1 != u.1:=by
            rw [Mt,Mp s vus (fun n => n != k.i && (usAt s (hung ds g k.i)).all fun u' => u'.1 != n)]
            congr 1
            funext u
            rw [Mp s (hung ds g k.i) (fun n => n != u.1)]
          have hu:=usX_nat s (X:=vt.den) vus
          have hu2:=usX_nat s (X:=vt.den) (hung ds g k.i)
          rw [<- Mt] at hu2
          refine @Ra _ _ _ _ _ _ _ _ _ _ _ (by rw [<- hh]; rfl) (fun _ => ?_) (fun _ => ?_)
          · simp only [Option.map_some,Res.at,List.map_append,List.map_cons,<- hu,<- hu2]
            rfl
          · rfl
def fdPl (o:Operand) (n:Nat) (x:Ex S):Option (Res S):=match adrOf o x with
    | some ⟨i,t0,q,.st ts,f⟩ => match fld ts n with
      | some ⟨t,_,_⟩ => pureR (.pl i t0 (q ++ [.fld n]) t) f
      | none => none
    | _ => none
theorem Rj (o:Operand) (j:Nat) (x:Ex S):fdPl o j (x.at s) = (fdPl o j x).map (Res.at s):=by
  unfold fdPl
  rw [V5]
  cases adrOf o x with
  | none => rfl
  | some p =>
    obtain ⟨pi,pt0,pq,pt,pis⟩:=p
    cases pt <;> try rfl
    simp only [Option.map_some,Plc.at]
    rename_i ts
    cases fld ts j <;> rfl
theorem Aah (o:Operand) (n:Nat) (x:Ex S):sField o n x = match x with
  | ⟨.val (.ptr (.st ts)) .p,f⟩ => match fld ts n with
    | some ⟨t,get,_⟩ => pureR (.val (.ptr t) .p) fun s => get (f s)
    | none => none
  | ⟨.pa i t0 q (.st ts),f⟩ => match fld ts n with
    | some ⟨t,_,_⟩ => pureR (.pa i t0 (q ++ [.fld n]) t) f
    | none => none
  | ⟨.pb o (.st ts),f⟩ => match fld ts n with
    | some ⟨t,_,_⟩ => pureR (.pb (o + offs ts n) t) f
    | none => none
  | x => fdPl o n x:=by
  unfold sField fdPl
  rfl
theorem Ae2 (o:Operand) (j:Nat) (x:Ex S):sField o j (x.at s) = (sField o j x).map (Res.at s):=by
  rw [Aah,Aah]
  obtain ⟨e,f⟩:=x
  cases e <;> try exact Rj s o j ⟨_,f⟩
  case val t m =>
    cases t <;> try exact Rj s o j ⟨_,f⟩
    rename_i t
    cases t <;> try exact Rj s o j ⟨_,f⟩
    rename_i ts
    cases m <;> try exact Rj s o j ⟨_,f⟩
    simp only [Ex.at]
    cases fld ts j <;> rfl
  case pa i t0 q t =>
    cases t <;> try exact Rj s o j ⟨_,f⟩
    rename_i ts
    simp only [Ex.at]
    cases fld ts j <;> rfl
  case pb i t =>
    cases t <;> try exact Rj s o j ⟨_,f⟩
    rename_i ts
    simp only [Ex.at]
    cases fld ts j <;> rfl
theorem Abv (ds:List Nat) (pin:Nat -> Bool) (g:Nat -> Ex S) (vo:Operand) (k:Nat) (t:Ty):sStoreG ds pin (atF s g) vo k t = (sStoreG ds pin g vo k t).map (Res.at s):=by
  unfold sStoreG
  by_cases hk:(t.part && Nat.ble (k + 1) 64) = true
  · rw [if_pos hk,if_pos hk]
    rw [Ol]
    cases take ds pin g vo with
    | none => rfl
    | some v =>
      obtain ⟨vt,vm,vf,vus⟩:=v
      simp only [Option.map_some,Tkn.at]
      cases Ty.same vt t with
      | none => rfl
      | some e =>
        obtain ⟨e⟩:=e
        subst e
        have hh:(((usAt s vus).all fun u => u.1 != gB + k && (hung ds (atF s g) (gB + k)).all fun u' => u'.1 != u.1) && (hung ds (atF s g) (gB + k)).all fun u' => u'.1 != gB + k) = ((vus.all fun u => u.1 != gB + k && (hung ds g (gB + k)).all fun u' => u'.1 != u.1) && (hung ds g (gB + k)).all fun u' => u'.1 != gB + k):=by
          rw [Mt,Mp s vus (fun n => n != gB + k && (usAt s (hung ds g (gB + k))).all fun u' => u'.1 != n),Mp s (hung ds g (gB + k)) (fun n => n != gB + k)]
          congr 2
          funext u
          rw [Mp s (hung ds g (gB + k)) (fun n => n != u.1)]
        have hu:=usX_nat s (X:=vt.den) vus
        have hu2:=usX_nat s (X:=vt.den) (hung ds g (gB + k))
        rw [<- Mt] at hu2
        refine @Ra _ _ _ _ _ _ _ _ _ _ _ (by rw [<- hh]) (fun _ => ?_) (fun _ => ?_)
        · simp only [Option.map_some,Res.at,List.map_append,List.map_cons,<- hu,<- hu2]
        · rfl
  · rw [if_neg hk,if_neg hk]; rfl
theorem Abp (ds:List Nat) (pin:Nat -> Bool) (dm:Nat -> Option Md) (g:Nat -> Ex S) (o vo:Operand) (x:Ex S):sStoreX ds pin dm (atF s g) o vo (x.at s) = (sStoreX ds pin dm g o vo x).map (Res.at s):=by
  obtain ⟨e,f⟩:=x
  cases e <;> first | exact Aex s ds pin dm g o vo ⟨_,f⟩ | exact Abv s ds pin g vo _ _
theorem Acg (g:Nat -> Ex S) (o:Operand) (j:Nat) (x:Ex S):sFieldV (atF s g) o j (x.at s) = (sFieldV g o j x).map (Res.at s):=by
  obtain ⟨e,f⟩:=x
  cases e <;> try rfl
  · rename_i t m
    cases t <;> try rfl
    rename_i ts
    simp only [Ex.at,sFieldV]
    refine @ite_map _ _ _ _ _ _ _ _ _ (fun _ => ?_) (fun _ => ?_)
    · cases fld ts j <;> rfl
    · cases slotOf o with
      | none => rfl
      | some i =>
        cases fld ts j with
        | none => rfl
        | some q => exact M4 s g ⟨i,.st ts,[.fld j],q.1,fun _ => []⟩
  · rename_i i t0 q t
    cases t <;> try rfl
    rename_i ts
    simp only [Ex.at,sFieldV]
    cases fld ts j with
    | none => rfl
    | some q' => exact M4 s g ⟨i,t0,q ++ [.fld j],q'.1,f⟩
def idxPl (g:Nat -> Ex S) (o:Operand) (x:Ex S) (h:S -> Int):Option (Res S):=
  match vluOf o x with
  | some ⟨j,t0,q,.sl e t,is⟩ => match look g ⟨j,t0,q,.sl e t,is⟩ with
    | some k => if k.m.own (k.q ++ [.idx]) then
        some ⟨Unit,fun s => (k.content s).bind fun (l:List t.den) => (getI l (h s)).bind fun _ => some (),.pl j t0 (q ++ [.idx]) t,fun s _ => is s ++ [h s],[]⟩
      else none
    | none => none
  | _ => none
theorem Afs (g:Nat -> Ex S) (o:Operand) (x:Ex S) (h:S -> Int):idxPl (atF s g) o (x.at s) (fun _ => h s) = (idxPl g o x h).map (Res.at s):=by
  unfold idxPl
  rw [Q2]
  cases vluOf o x with
  | none => rfl
  | some p =>
    obtain ⟨pi,pt0,pq,pt,pis⟩:=p
    cases pt <;> try rfl
    rename_i e t
    simp only [Option.map_some,Plc.at]
    have:=Nv s g ⟨pi,pt0,pq,.sl e t,pis⟩
    simp only [Plc.at] at this
    rw [this]
    cases look g ⟨pi,pt0,pq,.sl e t,pis⟩ with
    | none => rfl
    | some k =>
      simp only [Option.map_some]
      show (if k.m.own (k.q ++ [.idx]) = true then _ else _) = _
      exact @ite_map _ _ _ _ _ _ _ _ _ (fun _ => rfl) (fun _ => rfl)
theorem Xo (g:Nat -> Ex S) (o:Operand) (x i:Ex S):Mc (atF s g) o (x.at s) (i.at s) = (Mc g o x i).map (Res.at s):=by
  obtain ⟨e',f'⟩:=i
  cases e' <;> try rfl
  rename_i t' m'
  cases t' <;> try rfl
  rename_i k
  have key:∀ x:Ex S,idxPl (atF s g) o (x.at s) (fun _ => f' s) = (idxPl g o x f').map (Res.at s):=fun x => Afs s g o x f'
  obtain ⟨e,f⟩:=x
  cases e <;> try exact key ⟨_,f⟩
  rename_i t m
  cases t <;> try exact key ⟨_,f⟩
  cases m <;> first | rfl | exact key ⟨_,f⟩
theorem Aev (x i:Ex S):sIndex (x.at s) (i.at s) = (sIndex x i).map (Res.at s):=by
  obtain ⟨e,f⟩:=x
  obtain ⟨e',f'⟩:=i
  cases e <;> try rfl
  rename_i t m
  cases t <;> try rfl
  cases e' <;> try rfl
  rename_i t' m'
  cases t' <;> rfl
def lnPl (g:Nat -> Ex S) (o:Operand) (x:Ex S):Option (Res S):=match vluOf o x with
    | some ⟨j,t0,q,.sl e t,is⟩ => match look g ⟨j,t0,q,.sl e t,is⟩ with
      | some k => if (Ty.sl e t).nh (k.m.at k.q) then some ⟨List t.den,fun s => k.content s,.val (.int .i64) .p,fun _ l => lenI l,[]⟩ else none
      | none => none
    | _ => none
theorem Adf (g:Nat -> Ex S) (o:Operand) (x:Ex S):lnPl (atF s g) o (x.at s) = (lnPl g o x).map (Res.at s):=by
  unfold lnPl
  rw [Q2]
  cases vluOf o x with
  | none => rfl
  | some p =>
    obtain ⟨pi,pt0,pq,pt,pis⟩:=p
    cases pt <;> try rfl
    rename_i e t
    simp only [Option.map_some,Plc.at]
    have:=Nv s g ⟨pi,pt0,pq,.sl e t,pis⟩
    simp only [Plc.at] at this
    rw [this]
    cases look g ⟨pi,pt0,pq,.sl e t,pis⟩ with
    | none => rfl
    | some k => exact @ite_map _ _ _ _ _ _ _ _ _ (fun _ => rfl) (fun _ => rfl)
theorem sLen_or (g:Nat -> Ex S) (o:Operand) (x:Ex S):sLen g o x = match x with
  | ⟨.val .str _,f⟩ => intRes .i64 fun s => lenI (show List UInt8 from f s)
  | ⟨.val (.sl e t) m,f⟩ => if (Ty.sl e t).nh m then intRes .i64 fun s => lenI (show List t.den from f s) else none
  | x => lnPl g o x:=by
  unfold sLen lnPl
  rfl
theorem Ahc (g:Nat -> Ex S) (o:Operand) (x:Ex S):sLen (atF s g) o (x.at s) = (sLen g o x).map (Res.at s):=by
  rw [sLen_or,sLen_or]
  obtain ⟨e,f⟩:=x
  cases e <;> try exact Adf s g o ⟨_,f⟩
  case val t m =>
    cases t <;> try exact Adf s g o ⟨_,f⟩
    · rfl
    · simp only [Ex.at]
      exact @ite_map _ _ _ _ _ _ _ _ _ (fun _ => rfl) (fun _ => rfl)
theorem Z3 (ds:List Nat) (g:Nat -> Ex S) (o:Operand) (j:Nat) (x:Ex S):J1 ds (atF s g) o j (x.at s) = (J1 ds g o j x).map (Res.at s):=by
  obtain ⟨e,f⟩:=x
  unfold J1
  cases slotOf o with
  | none => cases e <;> try rfl
            rename_i t m
            cases t <;> rfl
  | some i =>
    cases e <;> try rfl
    rename_i t m
    cases t <;> try rfl
    rename_i ts
    simp only [Ex.at]
    cases fld ts j with
    | none => rfl
    | some q =>
      obtain ⟨t',get,set⟩:=q
      simp only
      refine @ite_map _ _ _ _ _ _ _ _ _ (fun _ => rfl) (fun _ => ?_)
      simp only [Option.map_some,Res.at]
      cases t'.fz (m.nth j)
      · have h:=usX_nat s (X:=Unit) ((i,⟨.val (.tup ts) (m.setNth j .h),f⟩) :: hung ds g i)
        have e:usAt s ((i,(⟨.val (.tup ts) (m.setNth j .h),f⟩:Ex S)) :: hung ds g i) = (i,⟨.val (.tup ts) (m.setNth j .h),fun _ => f s⟩) :: hung ds (atF s g) i:=by rw [Mt]; rfl
        rw [e] at h
        exact congrArg (fun us => some (⟨Unit,fun _ => some (),.val t' (m.nth j),fun _ _ => get (f s),us⟩:Res Unit)) h
      · rfl
theorem Wt (mx:Bool) (x y:Ex S):sMinMax mx (x.at s) (y.at s) = (sMinMax mx x y).map (Res.at s):=by
  obtain ⟨e,f⟩:=x
  obtain ⟨e',f'⟩:=y
  cases e <;> try rfl
  rename_i t m
  cases t <;> try rfl
  cases e' <;> try rfl
  rename_i t' m'
  cases t' <;> try rfl
  cases mx <;> rfl
theorem Af9 (op:BinOp) (ts:List Ty) (f h:S -> Ty.dens ts):binSt op ts (fun _:Unit => f s) (fun _ => h s) = (binSt op ts f h).map (Res.at s):=by
  unfold binSt
  cases Ty.eqbs ts with
  | none => rfl
  | some q => cases op <;> rfl
theorem Yr (op:BinOp) (x y:Ex S):sBin op (x.at s) (y.at s) = (sBin op x y).map (Res.at s):=by
  obtain ⟨e,f⟩:=x
  obtain ⟨e',f'⟩:=y
  cases e <;> try rfl
  rename_i t m
  cases t <;> try rfl
  · cases e' <;> try rfl
    rename_i t' m'
    cases t' <;> try rfl
    rename_i k k'
    simp only [Ex.at,sBin,binInt]
    cases op <;> first | rfl | (by_cases hk:k = k' <;> simp only [hk,if_true,if_false] <;> rfl)
  · cases e' <;> try rfl
    rename_i t' m'
    cases t' <;> try rfl
    cases op <;> rfl
  · cases e' <;> try rfl
    rename_i t' m'
    cases t' <;> try rfl
    cases op <;> rfl
  · cases e' <;> try rfl
    rename_i ts t' m'
    cases t' <;> try rfl
    rename_i ts'
    simp only [Ex.at,sBin]
    cases Ty.sames ts' ts with
    | none => rfl
    | some k =>
      obtain ⟨k⟩:=k
      subst k
      simp only
      split
      · exact Af9 s op ts' f f'
      · rfl
theorem sUn_nat (op:UnOp) (x:Ex S):sUn op (x.at s) = (sUn op x).map (Res.at s):=by
  obtain ⟨e,f⟩:=x
  cases e <;> try rfl
  rename_i t m
  cases t <;> try rfl
  · cases op <;> rfl
  · cases op <;> rfl
theorem Zl (o:Operand) (e:Ent) (f:S -> e.pay):(match adrOf o ⟨e,fun _ => f s⟩ with | some p => pureR (S:=Unit) (.pl p.i p.t0 p.q p.t) p.is | none => none) = (match adrOf o ⟨e,f⟩ with | some p => pureR (S:=S) (.pl p.i p.t0 p.q p.t) p.is | none => none).map (Res.at s):=by
  rw [Xt]
  cases adrOf o ⟨e,f⟩ <;> rfl
theorem Aia (o:Operand) (x:Ex S):sNil o (x.at s) = (sNil o x).map (Res.at s):=by
  obtain ⟨e,f⟩:=x
  cases e <;> try first | (simp only [Ex.at,sNil]; exact Zl s o _ f) | rfl
  rename_i t m
  cases t <;> try (simp only [Ex.at,sNil]; exact Zl s o _ f)
  cases m <;> first | rfl | (simp only [Ex.at,sNil]; exact Zl s o _ f) | (simp only [Ex.at,sNil,adrOf]; cases slotOf o <;> rfl)
def agPl (g:Nat -> Ex S) (o:Operand) (t:Ty) (x:Ex S):Option (Arg S t):=match vluOf o x with
    | some p => match look g p,Ty.same p.t t with
      | some k,some ⟨e⟩ => if p.t.nh (k.m.at k.q) then some ⟨fun s => (e ▸ (show S -> Option p.t.den from k.content)) s,[p.i]⟩ else none
      | _,_ => none
    | none => none
theorem Ag3 (g:Nat -> Ex S) (o:Operand) (t:Ty) (x:Ex S):agPl (atF s g) o t (x.at s) = (agPl g o t x).map (Arg.at s):=by
  unfold agPl
  rw [Q2]
  cases vluOf o x with
  | none => rfl
  | some p =>
    obtain ⟨pi,pt0,pq,pt,pis⟩:=p
    simp only [Option.map_some]
    have:=Nv s g ⟨pi,pt0,pq,pt,pis⟩
    rw [this]
    cases look g ⟨pi,pt0,pq,pt,pis⟩ with
    | none => rfl
    | some k =>
      simp only [Plc.at,Option.map_some]
      cases Ty.same pt t with
      | none => rfl
      | some e =>
        obtain ⟨e⟩:=e
        subst e
        exact @ite_map _ _ _ _ _ _ _ _ _ (fun _ => rfl) (fun _ => rfl)
def agIn (g:Nat -> Ex S) (o:Operand) (t:Ty) (x:Ex S):Option (Arg S t):=match x with
  | ⟨.val t' m,f⟩ => match Ty.same t' t with
    | some ⟨k⟩ => if t'.fz m then some ⟨fun s => some ((k ▸ (show S -> t'.den from f)) s),[]⟩ else
      match slotOf o with
      | some i => if t'.nh m then some ⟨fun s => some ((k ▸ (show S -> t'.den from f)) s),[i]⟩ else none
      | none => none
    | none => none
  | x => agPl g o t x
theorem Vl (g:Nat -> Ex S) (o:Operand) (t:Ty):sArg0 g o t = agIn g o t (opx g o):=by
  unfold sArg0 agIn agPl
  rfl
theorem Afk (g:Nat -> Ex S) (o:Operand) (t:Ty):sArg0 (atF s g) o t = (sArg0 g o t).map (Arg.at s):=by
  rw [Vl,Vl,opx_nat]
  generalize opx g o = x
  obtain ⟨e,f⟩:=x
  cases e <;> try exact Ag3 s g o t ⟨_,f⟩
  rename_i t' m
  simp only [Ex.at,agIn]
  cases Ty.same t' t with
  | none => rfl
  | some k =>
    obtain ⟨k⟩:=k
    subst k
    simp only
    refine @ite_map _ _ _ _ _ _ _ _ _ (fun _ => rfl) (fun _ => ?_)
    cases slotOf o with
    | none => rfl
    | some i => exact @ite_map _ _ _ _ _ _ _ _ _ (fun _ => rfl) (fun _ => rfl)
theorem Ahe (q:Option FSig) (t:Ty):sFun q t = (sFun (S:=S) q t).map (Arg.at s):=by
  unfold sFun
  split
  · rename_i ps im r m F
    cases Ty.same (.fn ps r) t with
    | none => rfl
    | some k =>
      obtain ⟨k⟩:=k
      subst k
      exact @ite_map _ _ _ _ _ _ _ _ _ (fun _ => rfl) (fun _ => rfl)
  · rfl
theorem Acm (t:Ty):sNilArg t = (sNilArg (S:=S) t).map (Arg.at s):=by
  cases t <;> rfl
theorem Z2 (G:FuncId -> Option FSig) (g:Nat -> Ex S) (o:Operand) (t:Ty):sArg1 G (atF s g) o t = (sArg1 G g o t).map (Arg.at s):=by
  unfold sArg1
  split
  · exact Ahe s _ _
  · exact Acm s _
  · exact Afk s g o t
theorem Qo (G:FuncId -> Option FSig) (g:Nat -> Ex S) (im:Md):∀ (io:Option Nat) (xs:List Operand) (ts:List Ty),sArgs G (atF s g) im io xs ts = (sArgs G g im io xs ts).map fun q => (q.1.at s,q.2.map (Io.at s))
  | io,[],[] => by rcases io with _ | _ | _ <;> rfl
  | io,[],_ :: _ => by rcases io with _ | _ | _ <;> rfl
  | io,x :: xs,[] => by rcases io with _ | _ | _ <;> rfl
  | some 0,x :: xs,t :: ts => by
    simp only [sArgs]
    rw [opx_nat,Q2]
    cases vluOf x (opx g x) with
    | none => rfl
    | some p =>
      obtain ⟨pi,pt0,pq,pt,pis⟩:=p
      simp only [Option.map_some]
      rw [Nv s g ⟨pi,pt0,pq,pt,pis⟩,Qo G g im none xs ts]
      simp only [Plc.at]
      cases Ty.same pt t with
      | none => rfl
      | some e =>
        obtain ⟨e⟩:=e
        subst e
        cases look g ⟨pi,pt0,pq,pt,pis⟩ with
        | none => rfl
        | some k =>
          cases sArgs G g im none xs ts with
          | none => rfl
          | some q =>
            simp only [Option.map_some]
            show (if k.m.at k.q = im /\ pt.nh im = true then _ else _) = _
            exact @ite_map _ _ _ _ _ _ _ _ _ (fun _ => rfl) (fun _ => rfl)
  | none,x :: xs,t :: ts => by
    simp only [sArgs]
    rw [Z2,Qo G g im none xs ts]
    cases sArg1 G g x t with
    | none => rfl
    | some a => cases sArgs G g im none xs ts <;> rfl
  | some (n + 1),x :: xs,t :: ts => by
    simp only [sArgs]
    rw [Z2,Qo G g im (some n) xs ts]
    cases sArg1 G g x t with
    | none => rfl
    | some a => cases sArgs G g im (some n) xs ts <;> rfl
theorem Afo (G:FuncId -> Option FSig) (ds:List Nat) (g:Nat -> Ex S) (xs:List Operand) (sg:FSig):sCall G ds (atF s g) xs sg = (sCall G ds g xs sg).map (Res.at s):=by
  obtain ⟨ps,cs,io,im,r,m,f⟩:=sg
  cases cs with
  | cons _ _ => rfl
  | nil =>
    simp only [sCall]
    rw [Qo]
    cases sArgs G g im io xs ps with
    | none => rfl
    | some q =>
      obtain ⟨A,i⟩:=q
      cases i with
      | none =>
        simp only [Option.map_some,Option.map_none]
        cases io with
        | some n => rfl
        | none =>
          simp only
          show (if (A.lend.isEmpty || r.fresh m) = true then _ else _) = _
          exact @ite_map _ _ _ _ _ _ _ _ _ (fun _ => rfl) (fun _ => rfl)
      | some k =>
        obtain ⟨t,k⟩:=k
        simp only [Option.map_some,Io.at]
        cases ioBack ps io t with
        | none => rfl
        | some back =>
          simp only
          show (if ((A.lend.isEmpty || (r.fresh m && t.fresh im)) && !A.lend.contains k.i) = true then _ else _) = _
          refine @ite_map _ _ _ _ _ _ _ _ _ (fun _ => ?_) (fun _ => ?_)
          · simp only [Option.map_some,Res.at,List.map_cons]
            have h:=usX_nat s (X:=r.den × ioT ps io) (hung ds g k.i)
            rw [<- Mt] at h
            have h':(usX (hung ds (atF s g) (Lk.at s k).i):List (Nat × ((e:Ent) × (Unit -> (r.den × ioT ps io) -> e.pay)))) = _:=h
            rw [h']
            rfl
          · rfl
theorem Adr (G:FuncId -> Option FSig) (g:Nat -> Ex S) (xs:List Operand) (x:Ex S):sCallV G (atF s g) xs (x.at s) = (sCallV G g xs x).map (Res.at s):=by
  obtain ⟨e,f⟩:=x
  cases e <;> try rfl
  rename_i t m
  cases t <;> try rfl
  rename_i ps r
  simp only [Ex.at,sCallV]
  rw [Qo]
  cases sArgs G g .p none xs ps with
  | none => rfl
  | some q =>
    obtain ⟨A,i⟩:=q
    simp only [Option.map_some]
    show (if (A.lend.isEmpty || (r.flat && r.cell)) = true then _ else _) = _
    exact @ite_map _ _ _ _ _ _ _ _ _ (fun _ => rfl) (fun _ => rfl)
theorem Ad8 (Tb:Tab) (t:TypeId) (v:Value):sConst Tb t v = (sConst (S:=S) Tb t v).map (Res.at s):=by
  unfold sConst
  split
  · cases Tb.tt t with
    | none => rfl
    | some ty => cases ty <;> rfl
  all_goals rfl
theorem Aez (Tb:Tab) (t:TypeId):sAlloc Tb t = (sAlloc (S:=S) Tb t).map (Res.at s):=by
  unfold sAlloc
  cases Tb.tt t with
  | none => rfl
  | some ty =>
    simp only
    cases ty.zero with
    | none => rfl
    | some z => simp only; cases ty.cell <;> rfl
theorem W2 (Tb:Tab) (t:TypeId) (l c:Ex S):N1 Tb t (l.at s) (c.at s) = (N1 Tb t l c).map (Res.at s):=by
  obtain ⟨e1,f1⟩:=l
  obtain ⟨e2,f2⟩:=c
  unfold N1
  cases Tb.tt t with
  | none => rfl
  | some ty =>
    cases ty <;> try rfl
    cases e1 <;> try rfl
    rename_i t1 m1
    cases t1 <;> try rfl
    rename_i k1
    cases k1 <;> try rfl
    cases e2 <;> try rfl
    rename_i t2 m2
    cases t2 <;> try rfl
    rename_i k2
    cases k2 <;> try rfl
    rename_i e ty
    simp only [Ex.at]
    cases ty.zero <;> rfl
theorem Ui (ds:List Nat) (pin:Nat -> Bool) (g:Nat -> Ex S) (ps:List (Nat × Operand)):∀ (n:Nat) (ts:List Ty),sParts ds pin (atF s g) ps n ts = (sParts ds pin g ps n ts).map (Parts.at s)
  | _,[] => rfl
  | n,t :: ts => by
    simp only [sParts]
    rw [Ui ds pin g ps (n + 1) ts]
    cases sParts ds pin g ps (n + 1) ts with
    | none => rfl
    | some r =>
      simp only [Option.map_some]
      cases partAt n ps with
      | some o =>
        simp only
        rw [Ol]
        cases take ds pin g o with
        | none => rfl
        | some k =>
          obtain ⟨kt,km,kf,kus⟩:=k
          simp only [Option.map_some,Tkn.at]
          cases Ty.same kt t with
          | none => rfl
          | some e =>
            obtain ⟨e⟩:=e
            subst e
            simp only [Parts.at]
            have hh:((usAt s kus).all fun u => (usAt s r.us).all fun v => u.1 != v.1) = kus.all fun u => r.us.all fun v => u.1 != v.1:=by
              rw [Mp s kus (fun n => (usAt s r.us).all fun v => n != v.1)]
              congr 1
              funext u
              exact Mp s r.us (fun n => u.1 != n)
            refine @Ra _ _ _ _ _ _ _ _ _ _ _ (by rw [hh]) (fun _ => ?_) (fun _ => ?_)
            · rw [<- Vr]
              rfl
            · rfl
      | none =>
        simp only
        cases t.zero <;> rfl
theorem Aeb (ds:List Nat) (T:Tab) (g:Nat -> Ex S) (t:TypeId) (ps:List (Nat × Operand)):sBuild ds T (atF s g) t ps = (sBuild ds T g t ps).map (Res.at s):=by
  unfold sBuild
  cases T.tt t with
  | none => rfl
  | some ty =>
    cases ty <;> try rfl
    rename_i ts
    simp only
    rw [Ui]
    cases sParts ds T.pin g ps 0 ts with
    | none => rfl
    | some r =>
      simp only [Option.map_some]
      refine @ite_map _ _ _ _ _ _ _ _ _ (fun _ => ?_) (fun _ => ?_)
      · exact congrArg (fun us => some (⟨Ty.dens ts,fun _ => r.f s,.val (.st ts) r.m,fun _ y => y,us⟩:Res Unit)) (usX_nat s r.us)
      · rfl
theorem Wd (ds:List Nat) (T:Tab) (g:Nat -> Ex S) (d:Option Nat) (t:TypeId) (n:Nat) (ps:List (Nat × Operand)):J0 ds T (atF s g) d t n ps = (J0 ds T g d t n ps).map (Res.at s):=by
  unfold J0
  cases T.tt t with
  | none => rfl
  | some ty =>
    cases ty <;> try rfl
    rename_i e ty
    simp only
    rw [Ui]
    cases sParts ds T.pin g ps 0 (List.replicate n ty) with
    | none => rfl
    | some r =>
      simp only [Option.map_some,Parts.at]
      refine @ite_map _ _ _ _ _ _ _ _ _ (fun _ => ?_) (fun _ => ?_)
      · exact congrArg (fun us => some (⟨Ty.dens (List.replicate n ty),fun _ => r.f s,.val (.sl e ty) (.u (elemM T d ty n r.m)),fun _ y => listOf ty n y,us⟩:Res Unit)) (usX_nat s r.us)
      · rfl
theorem Abc (ds:List Nat) (T:Tab) (g:Nat -> Ex S) (e:TypeId) (t:Ty) (c:Md) (fx:S -> Option (Ty.sl e t).den) (ux:List (Nat × Ex S)) (y:Operand) :
    Ot ds T (atF s g) e t c (fun _ => fx s) (usAt s ux) y = (Ot ds T g e t c fx ux y).map (Res.at s):=by
  unfold Ot
  rw [Ol]
  cases take ds T.pin g y with
  | none => rfl
  | some k =>
    obtain ⟨kt,km,kf,kus⟩:=k
    cases kt <;> try rfl
    rename_i e' t'
    simp only [Option.map_some,Tkn.at]
    cases Ty.same t' t with
    | none => rfl
    | some k =>
      obtain ⟨k⟩:=k
      subst k
      simp only
      have hh:((usAt s ux).all fun u => (usAt s kus).all fun v => u.1 != v.1) = ux.all fun u => kus.all fun v => u.1 != v.1:=by
        rw [Mp s ux (fun n => (usAt s kus).all fun v => n != v.1)]
        congr 1
        funext u
        exact Mp s kus (fun n => u.1 != n)
      refine @Ra _ _ _ _ _ _ _ _ _ _ _ (by rw [hh]) (fun _ => ?_) (fun _ => ?_)
      · simp only [Option.map_some,Res.at,List.map_append]
        rw [usX_nat,usX_nat]
      · rfl
theorem Z8 (g:Nat -> Ex S) (e:TypeId) (t:Ty) (c:Md) (fx:S -> Option (Ty.sl e t).den) (ux:List (Nat × Ex S)) (y:Operand) :
    Oo (atF s g) e t c (fun _ => fx s) (usAt s ux) y = (Oo g e t c fx ux y).map (Res.at s):=by
  unfold Oo
  rw [opx_nat,Q2]
  cases vluOf y (opx g y) with
  | none => rfl
  | some p =>
    obtain ⟨pi,pt0,pq,pt,pis⟩:=p
    simp only [Option.map_some]
    rw [Nv s g ⟨pi,pt0,pq,pt,pis⟩]
    cases look g ⟨pi,pt0,pq,pt,pis⟩ with
    | none => rfl
    | some k =>
      simp only [Plc.at,Option.map_some]
      cases Ty.same pt (.sl e t) with
      | none => rfl
      | some e' =>
        obtain ⟨e'⟩:=e'
        subst e'
        simp only
        have hh:=Mp s ux (fun n => n != pi)
        refine @Ra _ _ _ _ _ _ _ _ _ _ _ (by rw [hh]; rfl) (fun _ => ?_) (fun _ => ?_)
        · exact congrArg (fun us => some (⟨List t.den,_,.val (.sl e t) (.u c),fun _ l => l,us⟩:Res Unit)) (usX_nat s ux)
        · rfl
theorem Abl (x:Ex S):frozenX (x.at s) = frozenX x:=by
  obtain ⟨e,f⟩:=x
  cases e <;> rfl
theorem Abo (ds:List Nat) (T:Tab) (g:Nat -> Ex S) (x y:Operand):sAppend ds T (atF s g) x y = (sAppend ds T g x y).map (Res.at s):=by
  unfold sAppend
  rw [Ol]
  cases take ds T.pin g x with
  | none => rfl
  | some k =>
    obtain ⟨kt,km,kf,kus⟩:=k
    cases kt <;> try rfl
    rename_i e t
    cases km <;> try rfl
    rename_i c
    simp only [Option.map_some,Tkn.at]
    rw [opx_nat,Abl]
    refine @ite_map _ _ _ _ _ _ _ _ _ (fun _ => ?_) (fun _ => ?_)
    · exact Z8 s g e t c kf kus y
    · exact Abc s ds T g e t c kf kus y
theorem Yf (g:Nat -> Ex S) (o:Option Operand):optInt (atF s g) o = (optInt g o).map fun q => q.map fun f => fun _ => f s:=by
  cases o with
  | none => rfl
  | some o =>
    simp only [optInt]
    rw [opx_nat]
    generalize opx g o = x
    obtain ⟨e,f⟩:=x
    cases e <;> try rfl
    rename_i t m
    cases t <;> rfl
theorem loI_nat (l:Option (S -> Int)):loI (l.map fun f => fun _:Unit => f s) () = loI l s:=by cases l <;> rfl
theorem hiI_nat (l:Option (S -> Int)) (n:Int):hiI (l.map fun f => fun _:Unit => f s) () n = hiI l s n:=by cases l <;> rfl
def slTk (ds:List Nat) (T:Tab) (g:Nat -> Ex S) (x:Operand) (l h:Option (S -> Int)):Option (Res S):=match l,h with
      | none,some k => match take ds T.pin g x with
        | some ⟨.sl e t,.u c,fx,ux⟩ => some ⟨List t.den,fun s => (fx s).bind fun a => cutI (show List t.den from a) 0 (k s),.val (.sl e t) (.u c),fun _ y => y,usX ux⟩
        | _ => none
      | _,_ => none
theorem Y5 (ds:List Nat) (T:Tab) (g:Nat -> Ex S) (x:Operand) (l h:Option (S -> Int)):slTk ds T (atF s g) x (l.map fun f => fun _ => f s) (h.map fun f => fun _ => f s) = (slTk ds T g x l h).map (Res.at s):=by
  unfold slTk
  cases l with
  | some l => cases h <;> rfl
  | none =>
    cases h with
    | none => rfl
    | some h =>
      simp only [Option.map_none,Option.map_some]
      rw [Ol]
      cases take ds T.pin g x with
      | none => rfl
      | some k =>
        obtain ⟨kt,km,kf,kus⟩:=k
        cases kt <;> try rfl
        rename_i e t
        cases km <;> try rfl
        rename_i c
        exact congrArg (fun us => some (⟨List t.den,_,.val (.sl e t) (.u c),fun _ l => l,us⟩:Res Unit)) (usX_nat s kus)
def slIn (ds:List Nat) (T:Tab) (g:Nat -> Ex S) (x:Operand) (l h:Option (S -> Int)) (z:Ex S):Option (Res S):=match z with
    | ⟨.val .str _,f⟩ => part1 .str fun s => cutI (show List UInt8 from f s) (loI l s) (hiI h s (lenI (show List UInt8 from f s)))
    | ⟨.val (.sl e t) .p,f⟩ => part1 (.sl e t) fun s => cutI (show List t.den from f s) (loI l s) (hiI h s (lenI (show List t.den from f s)))
    | _ => slTk ds T g x l h
theorem Sc (ds:List Nat) (T:Tab) (g:Nat -> Ex S) (x:Operand) (lo hi:Option Operand):sSlice ds T g x lo hi = match optInt g lo,optInt g hi with
  | some l,some h => slIn ds T g x l h (opx g x)
  | _,_ => none:=by
  unfold sSlice slIn slTk
  rfl
theorem Ahj (ds:List Nat) (T:Tab) (g:Nat -> Ex S) (x:Operand) (l h:Option (S -> Int)) (z:Ex S) :
    slIn ds T (atF s g) x (l.map fun f => fun _ => f s) (h.map fun f => fun _ => f s) (z.at s) = (slIn ds T g x l h z).map (Res.at s):=by
  obtain ⟨e,f⟩:=z
  cases e <;> try exact Y5 s ds T g x l h
  case val t m =>
    cases t <;> try exact Y5 s ds T g x l h
    case str =>
      cases l <;> cases h <;> rfl
    case sl e t =>
      cases m <;> try exact Y5 s ds T g x l h
      cases l <;> cases h <;> rfl
theorem Aef (ds:List Nat) (T:Tab) (g:Nat -> Ex S) (x:Operand) (lo hi:Option Operand):sSlice ds T (atF s g) x lo hi = (sSlice ds T g x lo hi).map (Res.at s):=by
  rw [Sc,Sc,Yf,Yf,opx_nat]
  cases optInt g lo with
  | none => rfl
  | some l =>
    cases optInt g hi with
    | none => rfl
    | some h => exact Ahj s ds T g x l h (opx g x)
theorem Aac (T:Tab) (src dst:TypeId) (x:Ex S):Rg T src dst (x.at s) = (Rg T src dst x).map (Res.at s):=by
  obtain ⟨e,f⟩:=x
  unfold Rg
  cases T.tt dst with
  | none =>
    cases e <;> try rfl
    rename_i t m
    cases t <;> try rfl
    rename_i e t
    cases t <;> try rfl
    rename_i k
    cases k <;> rfl
  | some ty =>
    cases e <;> try rfl
    rename_i t m
    cases t <;> try rfl
    · cases ty <;> rfl
    · rename_i e t
      cases t <;> try (cases ty <;> rfl)
      rename_i k
      cases k <;> cases ty <;> try rfl
      simp only [Ex.at]
      exact @ite_map _ _ _ _ _ _ _ _ _ (fun _ => rfl) (fun _ => rfl)
theorem Aas (ds:List Nat) (pin:Nat -> Bool) (g:Nat -> Ex S):∀ (xs:List Operand) (ts:List Ty),sCaps ds pin (atF s g) xs ts = (sCaps ds pin g xs ts).map fun q => (fun _ => q.1 s,usAt s q.2)
  | [],[] => rfl
  | [],_ :: _ => rfl
  | _ :: _,[] => rfl
  | x :: xs,t :: ts => by
    simp only [sCaps]
    rw [opx_nat,Aas ds pin g xs ts]
    generalize opx g x = z
    obtain ⟨e,f⟩:=z
    cases e <;> try rfl
    rename_i t' m
    cases t' <;> try rfl
    rename_i t'
    simp only [Ex.at]
    cases slotOf x with
    | none => rfl
    | some i =>
      cases sCaps ds pin g xs ts with
      | none => rfl
      | some q =>
        obtain ⟨h,us⟩:=q
        simp only [Option.map_some]
        cases Ty.same t' t with
        | none => rfl
        | some k =>
          obtain ⟨k⟩:=k
          subst k
          simp only
          have hh:=Mp s us (fun n => n != i)
          refine @ite_map _ _ _ _ _ _ _ _ _ (fun _ => ?_) (fun _ => ?_)
          · rfl
          · refine @Ra _ _ _ _ _ _ _ _ _ _ _ (by rw [hh]) (fun _ => ?_) (fun _ => ?_)
            · simp only [Option.map_some]
              rw [Mt,Vr]
              rfl
            · rfl
theorem Zf (ds:List Nat) (T:Tab) (g:Nat -> Ex S) (f:FuncId) (caps:List Operand):Ms ds T (atF s g) f caps = (Ms ds T g f caps).map (Res.at s):=by
  unfold Ms
  cases T.sg f with
  | none => rfl
  | some sg =>
    obtain ⟨ps,cs,io,im,r,m,F⟩:=sg
    cases io with
    | some n => rfl
    | none =>
      simp only
      rw [Aas]
      cases sCaps ds T.pin g caps cs with
      | none => rfl
      | some q =>
        obtain ⟨h,us⟩:=q
        simp only [Option.map_some]
        refine @ite_map _ _ _ _ _ _ _ _ _ (fun _ => ?_) (fun _ => ?_)
        · exact congrArg (fun us => some (⟨Unit,fun _ => some (),.val (.fn ps r) .p,fun _ _ => fun x => (F x (h s)).bind fun y => some y.1,us⟩:Res Unit)) (usX_nat s us)
        · rfl
theorem at_fst (x:Ex S):(x.at s).1 = x.1:=rfl
theorem sop_nat (Tb:Tab) (ds:List Nat) (g:Nat -> Ex S) (o:Oper):sop Tb ds (atF s g) o = (sop Tb ds g o).map (Res.at s):=by
  unfold sop
  cases o.op <;> simp only [opx_nat,at_fst] <;> try rfl
  case move x => exact Aaa s _ _ _ _
  case assign x => cases x <;> first | exact Ad8 s Tb _ _ | exact Ab8 s _ _ _ _
  case alloc t => exact Aez s Tb t
  case box t x => exact Ah5 s _ _ _ _
  case load t x => rw [map_ite,Aff]; rfl
  case store t x v =>
    cases o.dst with
    | none => simp only; rw [map_ite,Abp]; rfl
    | some d => rfl
  case nilCheck x => exact Aia s _ _
  case binOp op t x y yt =>
    split
    · rw [map_ite,Yr]; rfl
    · rw [map_ite,Yr]; rfl
    · exact Yr s _ _ _
  case unOp op t x => exact sUn_nat s _ _
  case fieldAddr t x j => rw [map_ite,Ae2]; rfl
  case field t x j => rw [map_ite,Acg]; rfl
  case indexAddr t x i => rw [map_ite,Xo]; rfl
  case index t x i => rw [map_ite,Aev]; rfl
  case extract x j => exact Z3 s _ _ _ _ _
  case build t ps => exact Aeb s _ _ _ _ _
  case buildSlice t n ps => exact Wd s _ _ _ _ _ _ _
  case makeSlice t l c => exact W2 s _ _ _ _
  case slice t x lo hi mx =>
    cases mx with
    | none => simp only; rw [map_ite,Aef]; rfl
    | some _ => rfl
  case convert a b x => rw [map_ite,Aac]; rfl
  case makeFunc f fs cs =>
    cases f <;> try rfl
    simp only
    rw [map_ite,Zf]; rfl
  case call c =>
    split
    · split
      · exact Afo s _ _ _ _ _
      · rfl
    · exact Adr s _ _ _ _
    · split
      · rw [map_ite,Ahc]; rfl
      · rfl
    · split
      · exact Wt s _ _ _
      · rfl
    · split
      · exact Wt s _ _ _
      · rfl
    · split
      · rw [map_ite,Abo]; rfl
      · rfl
    · rfl
end
end Go.Abs
