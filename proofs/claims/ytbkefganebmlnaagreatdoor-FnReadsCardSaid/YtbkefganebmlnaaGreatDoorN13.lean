/-
  The meta layer, part 13: structs and slices out of their parts.
-/
import Derived.Test.YtbkefganebmlnaaGreatDoorN12
import Derived.Great.BuildSlice
namespace Go.Abs
open Go.RowKit
set_option linter.unusedVariables false
set_option linter.unusedSimpArgs false
theorem Vz {α β:Type} {f:α -> Option β}:∀ {l:List α} {l':List β},l.length = l'.length -> (∀ (j:Nat) (x:α),l[j]? = some x -> ∃ y,l'[j]? = some y /\ f x = some y) -> l.mapM f = some l'
 | [],[],_,_ => rfl
 | [],_ :: _,h,_ => by simp at h
 | _ :: _,[],h,_ => by simp at h
 | x :: l,y :: l',h,k => by
  obtain ⟨y',h1,h2⟩:=k 0 x rfl
  simp only [List.getElem?_cons_zero,Option.some.injEq] at h1
  subst h1
  have ih:=Vz (f:=f) (l:=l) (l':=l') (by simpa using h) (fun j x hj => by simpa using k (j + 1) x (by simpa using hj))
  simp [List.mapM_cons,h2,ih]
theorem Wn (off:Nat):∀ (vs:List Value) (k:Nat) (arr:Array Value) (j:Nat),((vs.zipIdx k).foldl (fun cs (p:Value × Nat) => cs.setIfInBounds (off + p.2) p.1) arr)[j]? =
  if off + k <= j /\ j < off + k + vs.length then (if j < arr.size then vs[j - (off + k)]? else none) else arr[j]?
 | [],k,arr,j => by
  rw [if_neg (by simp)]
  rfl
 | v :: vs,k,arr,j => by
  simp only [List.zipIdx_cons,List.foldl_cons]
  rw [Wn off vs (k + 1)]
  simp only [Array.size_setIfInBounds,List.length_cons]
  by_cases h1:j = off + k
  ·subst h1
   rw [if_neg (by omega),if_pos (by omega)]
   by_cases hs:off + k < arr.size
   ·rw [if_pos hs]; simp [hs]
   ·rw [if_neg hs,Array.getElem?_eq_none (by simpa using Nat.le_of_not_lt hs)]
  ·by_cases h2:off + (k + 1) <= j /\ j < off + (k + 1) + vs.length
   ·have h3:off + k <= j /\ j < off + k + (vs.length + 1):=by omega
    have:j - (off + k) = (j - (off + (k + 1))) + 1:=by omega
    rw [if_pos h2,if_pos h3,this,List.getElem?_cons_succ]
   ·rw [if_neg h2,if_neg (by omega)]
    exact Array.getElem?_setIfInBounds_ne (by omega)
theorem Wp {α:Type}:∀ (segs:List (List α)) (i:Nat) (s vs:List α),segs[i]? = some s -> vs.length = s.length ->
  (segs.set i vs).flatten.length = segs.flatten.length /\ (segs.take i).flatten.length + s.length <= segs.flatten.length /\
  ∀ j,(segs.set i vs).flatten[j]? = if (segs.take i).flatten.length <= j /\ j < (segs.take i).flatten.length + vs.length then vs[j - (segs.take i).flatten.length]? else segs.flatten[j]?
 | [],_,_,_,h,_ => by simp at h
 | t :: segs,0,s,vs,h,hl => by
  simp only [List.getElem?_cons_zero,Option.some.injEq] at h
  subst h
  refine ⟨by simp [hl],by simp,fun j => ?_⟩
  simp only [List.set_cons_zero,List.flatten_cons,List.take_zero,List.flatten_nil,List.length_nil,Nat.zero_le,true_and,Nat.zero_add,Nat.sub_zero]
  by_cases hj:j < vs.length
  ·rw [if_pos hj,List.getElem?_append_left hj]
  ·rw [if_neg hj,List.getElem?_append_right (by omega),List.getElem?_append_right (by omega),hl]
 | t :: segs,i + 1,s,vs,h,hl => by
  simp only [List.getElem?_cons_succ] at h
  obtain ⟨k1,k2,k3⟩:=Wp segs i s vs h hl
  refine ⟨by simp [k1],by simp only [List.take_succ_cons,List.flatten_cons,List.length_append]; omega,fun j => ?_⟩
  simp only [List.set_cons_succ,List.flatten_cons,List.take_succ_cons,List.length_append]
  by_cases hj:j < t.length
  ·rw [List.getElem?_append_left hj,if_neg (by omega),List.getElem?_append_left hj]
  ·rw [List.getElem?_append_right (by omega),k3,List.getElem?_append_right (by omega)]
   by_cases h2:(segs.take i).flatten.length <= j - t.length /\ j - t.length < (segs.take i).flatten.length + vs.length
   ·rw [if_pos h2,if_pos (by omega)]
    congr 1
    omega
   ·rw [if_neg h2,if_neg (by omega)]
theorem Un {α:Type}:∀ (segs:List (List α)) (i j:Nat) (s vs:List α),segs[i]? = some s -> vs.length = s.length -> ((segs.set i vs).take j).flatten.length = (segs.take j).flatten.length
 | [],_,_,_,_,h,_ => by simp at h
 | t :: segs,0,0,_,_,_,_ => rfl
 | t :: segs,0,j + 1,s,vs,h,hl => by
  simp only [List.getElem?_cons_zero,Option.some.injEq] at h
  subst h
  simp [hl]
 | t :: segs,i + 1,0,_,_,_,_ => rfl
 | t :: segs,i + 1,j + 1,s,vs,h,hl => by
  simp only [List.getElem?_cons_succ] at h
  simp [Un segs i j s vs h hl]
theorem Abg {place:Nat -> Option (Nat × Nat)}:∀ (parts:List (Nat × Value)) (segs:List (List Value)),(∀ i s,segs[i]? = some s -> place i = some ((segs.take i).flatten.length,s.length)) ->
  (∀ p ∈ parts,∃ s,segs[p.1]? = some s /\ p.2.cells.toList.length = s.length) ->
  Instr.fill place (List.toArray segs.flatten) parts = some (List.toArray (parts.foldl (fun sg p => sg.set p.1 p.2.cells.toList) segs).flatten)
 | [],segs,_,_ => rfl
 | (i,v) :: parts,segs,hp,hs => by
  obtain ⟨s,h1,h2⟩:=hs (i,v) (by simp)
  simp only at h1 h2
  obtain ⟨f1,f2,f3⟩:=Wp segs i s v.cells.toList h1 h2
  have h2':v.cells.size = s.length:=by rw [<- h2,Array.length_toList]
  simp only [Instr.fill,hp i s h1]
  rw [if_neg (by simp only [Bool.or_eq_true,decide_eq_true_eq,List.size_toArray,h2',not_or]; exact ⟨fun h => h rfl,by omega⟩)]
  have hov:v.cells.zipIdx.foldl (fun cs (p:Value × Nat) => cs.setIfInBounds ((segs.take i).flatten.length + p.2) p.1) (List.toArray segs.flatten) = List.toArray (segs.set i v.cells.toList).flatten:=by
   rw [<- Array.foldl_toList,Array.toList_zipIdx]
   apply Array.ext_getElem?
   intro j
   rw [Wn]
   simp only [Nat.add_zero,List.size_toArray,List.getElem?_toArray]
   rw [f3]
   by_cases hj:(segs.take i).flatten.length <= j /\ j < (segs.take i).flatten.length + v.cells.toList.length
   ·rw [if_pos hj,if_pos hj,if_pos (by omega)]
   ·rw [if_neg hj,if_neg hj]
  have:v.cells.zipIdx.foldl (fun cs x => match x with | (c,j) => cs.setIfInBounds ((segs.take i).flatten.length + j) c) (List.toArray segs.flatten) = List.toArray (segs.set i v.cells.toList).flatten:=hov
  rw [this]
  refine Abg parts (segs.set i v.cells.toList) (fun j t hj => ?_) (fun p hpp => ?_)
  ·rw [Un segs i j s _ h1 h2]
   by_cases hij:i = j
   ·subst hij
    rw [List.getElem?_set_self (List.getElem?_eq_some_iff.1 h1).1] at hj
    cases hj
    rw [hp i s h1,h2]
   ·rw [List.getElem?_set_ne hij] at hj
    exact hp j t hj
  ·obtain ⟨t,k1,k2⟩:=hs p (by simp [hpp])
   by_cases hij:i = p.1
   ·rw [<- hij] at k1 ⊢
    rw [h1] at k1
    cases k1
    exact ⟨v.cells.toList,List.getElem?_set_self (List.getElem?_eq_some_iff.1 h1).1,by rw [k2,h2]⟩
   ·exact ⟨t,by rw [List.getElem?_set_ne hij]; exact k1,k2⟩
section
variable {C:Cx} {fr:Fr} {a:Act} {w:World} {P:Prot} {T:Nat -> List Nat}
def segsOf (a:Act) (ps:List (Nat × Operand)):Nat -> List Ty -> List (List Value)
 | _,[] => []
 | n,t :: ts => (match partAt n ps with | some o => (a.eval o).cells.toList | none => t.zcells) :: segsOf a ps (n + 1) ts
theorem T8 {a:Act} {ps:List (Nat × Operand)}:∀ {ts:List Ty} {n j:Nat},(segsOf a ps n ts)[j]? = ts[j]?.map fun t => match partAt (n + j) ps with | some o => (a.eval o).cells.toList | none => t.zcells
 | [],n,j => by simp [segsOf]
 | t :: ts,n,0 => by simp [segsOf]
 | t :: ts,n,j + 1 => by
  simp only [segsOf,List.getElem?_cons_succ]
  rw [T8 (ts:=ts) (n:=n + 1) (j:=j),show n + 1 + j = n + (j + 1) by omega]
theorem Wl {n:Nat}:∀ {ps:List (Nat × Operand)},n ∉ ps.map (·.1) -> partAt n ps = none
 | [],_ => rfl
 | p :: ps,h => by
  simp only [List.map_cons,List.mem_cons,not_or] at h
  simp only [partAt]
  rw [if_neg (fun e => h.1 e.symm)]
  exact Wl h.2
theorem Yb {n:Nat} {o:Operand}:∀ {ps:List (Nat × Operand)},(ps.map (·.1)).Nodup -> (n,o) ∈ ps -> partAt n ps = some o
 | [],_,h => by simp at h
 | p :: ps,hn,h => by
  simp only [List.map_cons,List.nodup_cons] at hn
  simp only [partAt]
  rcases List.mem_cons.1 h with rfl | h
  ·rw [if_pos rfl]
  ·rw [if_neg (fun e => hn.1 (by rw [e]; exact List.mem_map_of_mem (f:=(·.1)) h))]
   exact Yb hn.2 h
theorem Xv {a:Act}:∀ (ps:List (Nat × Operand)) (segs:List (List Value)),(ps.map (·.1)).Nodup -> ∀ j,((ps.map fun p => (p.1,a.eval p.2)).foldl (fun sg p => sg.set p.1 p.2.cells.toList) segs)[j]? =
  segs[j]?.map fun z => match partAt j ps with | some o => (a.eval o).cells.toList | none => z
 | [],segs,_,j => by simp [partAt]
 | p :: ps,segs,hn,j => by
  simp only [List.map_cons,List.nodup_cons] at hn
  simp only [List.map_cons,List.foldl_cons]
  rw [Xv ps _ hn.2]
  simp only [partAt]
  by_cases hj:p.1 = j
  ·subst hj
   rw [if_pos rfl,Wl hn.1]
   cases hs:segs[p.1]? with
   | none =>
    have:segs.length <= p.1:=List.getElem?_eq_none_iff.1 hs
    rw [List.getElem?_eq_none (by simpa using this)]
    rfl
   | some s =>
    rw [List.getElem?_set_self (List.getElem?_eq_some_iff.1 hs).1]
    rfl
  ·rw [if_neg hj,List.getElem?_set_ne hj]
theorem Vc (h:Sim C fr a w P T) {dl:List Nat} {pin:Nat -> Bool} {ps:List (Nat × Operand)}:∀ {ts:List Ty} {n:Nat} {r:Parts Unit ts},sParts dl pin fr ps n ts = some r -> ∀ {y:Ty.dens ts},r.f () = some y ->
  ∃ Tx Tn,TakeU C a w P T r.us Tx Tn /\ RepCs C.M ts w P r.m y (segsOf a ps n ts).flatten Tx /\ ∀ (j:Nat) (s:List Value) (t:Ty),(segsOf a ps n ts)[j]? = some s -> ts[j]? = some t -> s.length = t.size
 | [],n,r,hs,y,hy => by
  simp only [sParts,Option.some.injEq] at hs
  subst hs
  exact ⟨[],_,TakeU.nil,by simp [RepCs,segsOf],fun j s t hj => by simp [segsOf] at hj⟩
 | t :: ts,n,r,hs,y,hy => by
  simp only [sParts] at hs
  split at hs
  ·rename_i r' hr'
   split at hs
   ·rename_i o ho
    split at hs
    ·rename_i k hk
     split at hs
     ·rename_i e _
      obtain ⟨kt,km,kf,kus⟩:=k
      simp only at e
      subst e
      split at hs
      ·rename_i hcond
       simp only [Bool.and_eq_true,List.all_eq_true,bne_iff_ne,ne_eq] at hcond
       cases hs
       have hy:(kf ()).bind (fun u => (r'.f ()).bind fun v => some ((u,v):Ty.dens (kt :: ts))) = some y:=hy
       cases h1:kf () with
       | none => rw [h1] at hy; cases hy
       | some u =>
        rw [h1] at hy
        cases h2:r'.f () with
        | none => rw [h2] at hy; cases hy
        | some v =>
         rw [h2] at hy
         cases hy
         obtain ⟨Tx1,Tn1,tk1⟩:=take_ok h hk h1
         obtain ⟨Tx2,Tn2,tk2,hrep,hlen⟩:=Vc h hr' h2
         obtain ⟨Tn,tk⟩:=TakeU.both h tk1.u tk2 hcond.2
         obtain ⟨hrc,_⟩:=Bb kt hcond.1 tk1.rep
         refine ⟨Tx1 ++ Tx2,Tn,tk,?_,fun j s t hj ht => ?_⟩
         ·simp only [RepCs,segsOf,ho,List.flatten_cons]
          exact ⟨_,_,Tx1,Tx2,rfl,rfl,hrc,hrep⟩
         ·cases j with
          | zero =>
           simp only [segsOf,ho,List.getElem?_cons_zero,Option.some.injEq] at hj ht
           subst hj ht
           exact (RepC.length _ hrc).1
          | succ j =>
           simp only [segsOf,List.getElem?_cons_succ] at hj ht
           exact hlen j s t hj ht
      ·cases hs
     ·cases hs
    ·cases hs
   ·rename_i ho
    split at hs
    ·rename_i z hz
     cases hs
     have hy:(r'.f ()).bind (fun v => some ((z,v):Ty.dens (t :: ts))) = some y:=hy
     cases h2:r'.f () with
     | none => rw [h2] at hy; cases hy
     | some v =>
      rw [h2] at hy
      cases hy
      obtain ⟨Tx2,Tn2,tk2,hrep,hlen⟩:=Vc h hr' h2
      have hzr:=Pn (M:=C.M) (w:=w) (P:=P) t z hz
      refine ⟨Tx2,Tn2,tk2,?_,fun j s t' hj ht => ?_⟩
      ·simp only [RepCs,segsOf,ho,List.flatten_cons]
       exact ⟨_,_,[],Tx2,rfl,rfl,hzr,hrep⟩
      ·cases j with
       | zero =>
        simp only [segsOf,ho,List.getElem?_cons_zero,Option.some.injEq] at hj ht
        subst hj ht
        exact (RepC.length _ hzr).1
       | succ j =>
        simp only [segsOf,List.getElem?_cons_succ] at hj ht
        exact hlen j s t' hj ht
    ·cases hs
  ·cases hs
theorem Ts:∀ ts:List Ty,Ty.zcellss ts = (ts.map Ty.zcells).flatten
 | [] => rfl
 | t :: ts => by simp [Ty.zcellss,Ts ts]
theorem S5:∀ {ts:List Ty} {z:Ty.dens ts},Ty.zeros ts = some z -> ∀ (j:Nat) (t:Ty),ts[j]? = some t -> ∃ y,t.zero = some y
 | [],_,_,j,t,ht => by simp at ht
 | s :: ts,z,h,j,t,ht => by
  have h':(match s.zero,Ty.zeros ts with | some x,some y => some ((x,y):Ty.dens (s :: ts)) | _,_ => none) = some z:=h
  split at h'
  ·rename_i x y hx hy
   cases j with
   | zero => simp at ht; subst ht; exact ⟨x,hx⟩
   | succ j => exact S5 hy j t (by simpa using ht)
  ·cases h'
theorem Ry {t:Ty} {y:t.den} (h:t.zero = some y):t.zcells.length = t.size:=
 (RepC.length t (Pn (M:=default) (w:=default) (P:=fun _ _ => False) t y h)).1
theorem Aa4:∀ {ts:List Ty} {z:Ty.dens ts},Ty.zeros ts = some z -> ∀ j,j <= ts.length -> ((ts.map Ty.zcells).take j).flatten.length = offs ts j
 | [],_,_,j,hj => by simp [offs]
 | s :: ts,z,h,0,_ => by simp [offs]
 | s :: ts,z,h,j + 1,hj => by
  have h':(match s.zero,Ty.zeros ts with | some x,some y => some ((x,y):Ty.dens (s :: ts)) | _,_ => none) = some z:=h
  split at h'
  ·rename_i x y hx hy
   simp only [List.map_cons,List.take_succ_cons,List.flatten_cons,List.length_append,offs,Ry hx]
   rw [Aa4 hy j (by simpa using hj)]
  ·cases h'
theorem Xw {ps:List (Nat × Operand)} {ts:List Ty} {z:Ty.dens ts} (hz:Ty.zeros ts = some z) (hn:(ps.map (·.1)).Nodup) (hlt:∀ p ∈ ps,p.1 < ts.length) {place:Nat -> Option (Nat × Nat)}
  (hp:∀ (j:Nat) (t:Ty),ts[j]? = some t -> place j = some (offs ts j,t.size)) (hlen:∀ (j:Nat) (s:List Value) (t:Ty),(segsOf a ps 0 ts)[j]? = some s -> ts[j]? = some t -> s.length = t.size) :
  Instr.fill place (List.toArray (Ty.zcellss ts)) (ps.map fun p => (p.1,a.eval p.2)) = some (List.toArray (segsOf a ps 0 ts).flatten):=by
 rw [Ts]
 have hsg:∀ (i:Nat) (s:List Value),(ts.map Ty.zcells)[i]? = some s -> ∃ t:Ty,ts[i]? = some t /\ s = t.zcells /\ s.length = t.size:=fun i s hi => by
  rw [List.getElem?_map] at hi
  cases ht:ts[i]? with
  | none => rw [ht] at hi; cases hi
  | some t =>
   rw [ht] at hi
   cases hi
   obtain ⟨y,hy⟩:=S5 hz i t ht
   exact ⟨t,rfl,rfl,Ry hy⟩
 rw [Abg _ _ (fun i s hi => ?_) (fun p hpp => ?_)]
 ·congr 3
  refine List.ext_getElem? fun j => ?_
  rw [Xv ps _ hn,T8,List.getElem?_map,Option.map_map,Nat.zero_add]
  rfl
 ·obtain ⟨t,h1,h2,h3⟩:=hsg i s hi
  rw [hp i t h1,Aa4 hz i (Nat.le_of_lt (List.getElem?_eq_some_iff.1 h1).1),h3]
 ·obtain ⟨q,hq,rfl⟩:=List.mem_map.1 hpp
  have hql:=hlt q hq
  have ht:ts[q.1]? = some ts[q.1]:=List.getElem?_eq_getElem hql
  obtain ⟨y,hy⟩:=S5 hz q.1 _ ht
  refine ⟨_,by rw [List.getElem?_map,ht]; rfl,?_⟩
  rw [Ry hy]
  refine hlen q.1 _ _ ?_ ht
  rw [T8,ht,Nat.zero_add,Option.map_some,Yb hn (show (q.1,q.2) ∈ ps from hq)]
theorem Ahv {Q:Exit -> Act -> World -> Prop} (h:Sim C fr a w P T) {o:Oper} {t:TypeId} {ps:Array (Nat × Operand)} (ho:o.op = .build t ps)
  {Tb:Tab} (hT:TabOk C.M Tb) {dl:List Nat} {r:Res Unit} (hs:sBuild dl Tb fr t ps.toList = some r) {pin:Nat -> Bool} {ds:List Nat} (hc:OpC C pin ds fr o.dst r) {z:r.X} (hz:r.run () = some z):Goal C fr a w o Q r z:=by
 unfold sBuild at hs
 split at hs
 ·rename_i ts hty
  split at hs
  ·rename_i q hq
   split at hs
   ·rename_i hcond
    simp only [Bool.and_eq_true,decide_eq_true_eq,List.all_eq_true] at hcond
    obtain ⟨⟨hnd,hlt⟩,hzz⟩:=hcond
    cases hs
    cases hz0:Ty.zeros ts with
    | none => unfold Ty.hasZs at hzz; rw [hz0] at hzz; cases hzz
    | some z0 =>
     obtain ⟨Tx,Tn,tk,hrep,hlen⟩:=Vc h hq hz
     obtain ⟨i,hi,_,hzero⟩:=(hT _ _ hty).info
     obtain ⟨fs,hu,_,_,hfl,hfs⟩:=(hT _ _ hty).kind
     have hzi:=hzero z0 hz0
     have hplaces:fs.toList.mapM (fun f => (C.M.info? f.type).map fun i => (f.offset,i.size)) = some ((List.range ts.length).map fun j => (offs ts j,(ts[j]?.map Ty.size).getD 0)):=by
      refine Vz (by simp [hfl]) fun j f hj => ?_
      have hjl:j < ts.length:=by
       have:=(List.getElem?_eq_some_iff.1 hj).1
       simpa [hfl] using this
      obtain ⟨f',d,h1,h2,_,_,_,h4,_⟩:=hfs j _ (List.getElem?_eq_getElem hjl)
      have:f' = f:=by
       have hj':fs[j]? = some f:=by simpa using hj
       rw [h1] at hj'
       exact Option.some.inj hj'
      subst this
      refine ⟨(offs ts j,ts[j].size),by simp [hjl],?_⟩
      cases hif:C.M.info? f'.type with
      | none => rw [hif] at h4; cases h4
      | some k =>
       rw [hif] at h4
       have h4:k.size = ts[j].size:=by simpa using h4
       simp [h2,h4]
     have hbuilt:C.M.built t (ps.map fun (i,x) => (i,a.eval x)).toList = some (List.toArray (segsOf a ps.toList 0 ts).flatten):=by
      have hf:=Xw (a:=a) hz0 hnd hlt (place:=fun i => (((List.range ts.length).map fun j => (offs ts j,(ts[j]?.map Ty.size).getD 0)).toArray)[i]?) (fun j t ht => by
       have hjl:=(List.getElem?_eq_some_iff.1 ht).1
       simp [hjl,ht]
       exact (List.getElem?_eq_some_iff.1 ht).2 ▸ rfl) hlen
      have hzc:(valOf (.st ts) (Ty.zcellss ts)).cells = List.toArray (Ty.zcellss ts):=rfl
      unfold Program.built
      simp only [hi,hu,hzi,hplaces]
      have e1:(ps.map fun (i,x) => (i,a.eval x)).toList = ps.toList.map fun p => (p.1,a.eval p.2):=by simp
      rw [e1]
      exact hf
     have hrun:(execOp a.eval o).run C.M w = .ok (.value (.agg (List.toArray (segsOf a ps.toList 0 ts).flatten))) w:=by
      have:=run_build (P:=C.M) w t (ps.map fun (i,x) => (i,a.eval x)) _ hbuilt
      simp only [execOp,ho,Sem.run_bind,this,Result.andThen_ok,Sem.run_pure]
     obtain ⟨Tn',hd⟩:=h.give hc rfl tk (y:=z) (v:=.agg (List.toArray (segsOf a ps.toList 0 ts).flatten)) h.pext (Nat.le_refl _) (fun S _ => Keeps.refl w P S) (fun _ _ => by
      simp only [RepE,RepV]
      exact ⟨_,rfl,hrep⟩) tk.nodup (fun b hb => .inl hb)
     exact Jh hrun (h.did hc hd)
   ·cases hs
  ·cases hs
 ·cases hs
theorem Z4 {M:Program} {w:World} {P:Prot} {t:Ty} {c:Md}:∀ (n:Nat) {m:Md} {y:Ty.dens (List.replicate n t)} {cs:List Value} {T:List Nat},RepCs M (List.replicate n t) w P m y cs T -> eachLe t c n m = true -> T.Nodup ->
  Coer (fun P T => RepL (RepC M t w P c) (listOf t n y) cs T) w P T
 | 0,m,y,cs,T,h,_,_ => .none (by
  have h:cs = [] /\ T = []:=by simpa [RepCs] using h
  exact h)
 | n + 1,m,y,cs,T,h,hl,hn => by
  have h:RepCs M (t :: List.replicate n t) w P m y cs T:=h
  simp only [RepCs] at h
  simp only [eachLe,Bool.and_eq_true] at hl
  obtain ⟨c1,c2,T1,T2,rfl,rfl,h1,h2⟩:=h
  obtain ⟨n1,n2,n3⟩:=List.nodup_append.1 hn
  obtain ⟨U1,U2,D,s1,s2,d,r1,r2⟩:=Coer.app (RepC.coerce t h1 hl.1 n1) (Z4 n h2 hl.2 n2) hn (fun r hk => RepC.mono t r hk) (fun r hk => RepL.mono r fun y cs T' hs r => RepC.mono t r (hk.sub hs))
  exact ⟨U1 ++ U2,D,s1.append s2,d,c1,c2,U1,U2,rfl,rfl,r1,r2⟩
theorem Yg {t:Ty} {z:t.den} (hz:t.zero = some z):∀ n,∃ y,Ty.zeros (List.replicate n t) = some y
 | 0 => ⟨(),rfl⟩
 | n + 1 => by
  obtain ⟨y,hy⟩:=Yg hz n
  show ∃ y:Ty.dens (t :: List.replicate n t),Ty.zeros (t :: List.replicate n t) = some y
  refine ⟨(z,y),?_⟩
  simp only [Ty.zeros,hz,hy]
theorem Aa5 (t:Ty):∀ n j,j <= n -> offs (List.replicate n t) j = j * t.size
 | 0,j,h => by
  have:j = 0:=by omega
  subst this
  simp [offs]
 | n + 1,0,_ => by simp [List.replicate_succ,offs]
 | n + 1,j + 1,h => by
  rw [List.replicate_succ,offs,Aa5 t n j (by omega),Nat.add_mul]
  omega
theorem Xs (t:Ty):∀ n,Ty.sizes (List.replicate n t) = n * t.size
 | 0 => by simp [Ty.sizes]
 | n + 1 => by
  rw [List.replicate_succ,Ty.sizes,Xs t n,Nat.add_mul]
  omega
theorem Aa2 (t:Ty) (n:Nat):Ty.zcellss (List.replicate n t) = (List.replicate n t.zcells).flatten:=by
 rw [Ts,List.map_replicate]
theorem Ri (t:Ty):∀ n y,(listOf t n y).length = n
 | 0,_ => rfl
 | n + 1,y => by simp [listOf,Ri t n]
theorem Yz {Q:Exit -> Act -> World -> Prop} (h:Sim C fr a w P T) {o:Oper} {t:TypeId} {n:Nat} {ps:Array (Nat × Operand)} (ho:o.op = .buildSlice t n ps)
  {Tb:Tab} (hT:TabOk C.M Tb) {dl:List Nat} {r:Res Unit} {dd:Option Nat} (hs:J0 dl Tb fr dd t n ps.toList = some r) {pin:Nat -> Bool} {ds:List Nat} (hc:OpC C pin ds fr o.dst r) {z:r.X} (hz:r.run () = some z):Goal C fr a w o Q r z:=by
 unfold J0 at hs
 split at hs
 ·rename_i e ty hty
  split at hs
  ·rename_i q hq
   generalize elemM Tb dd ty n q.m = c at hs
   split at hs
   ·rename_i hcond
    simp only [Bool.and_eq_true,decide_eq_true_eq,List.all_eq_true] at hcond
    obtain ⟨⟨⟨⟨hle,hnd⟩,hlt⟩,hbig⟩,hzz⟩:=hcond
    cases hs
    cases hz0:ty.zero with
    | none => unfold Ty.hasZ at hzz; rw [hz0] at hzz; cases hzz
    | some z0 =>
     obtain ⟨Tx,Tn,tk,hrep,hlen⟩:=Vc h hq hz
     obtain ⟨hu,i,zz,hi,hzi,hsz,hzs,hpos,hby,hzv,_⟩:=(hT _ _ hty).kind
     obtain ⟨zs,hzs'⟩:=Yg hz0 n
     have hzv':=hzv z0 hz0
     have hzr:=Pn (M:=C.M) (w:=w) (P:=P) ty z0 hz0
     have hcv:=N6 ty hzr
     have hzc:zz.cells = List.toArray ty.zcells:=by rw [hzv',<- hcv,Array.toArray_toList,hcv]
     have hzl:ty.zcells.length = ty.size:=(RepC.length ty hzr).1
     have hnmax:n <= maxLen:=by
      have h1:n <= n * ty.size:=Nat.le_mul_of_pos_right n hpos
      have h2:(10000:Nat) <= maxLen:=by decide
      omega
     have hfill:=Xw (a:=a) hzs' hnd (fun p hp => by rw [List.length_replicate]; exact hlt p hp) (place:=fun j => some (j * i.size,i.size)) (fun j t ht => by
      have hjl:=(List.getElem?_eq_some_iff.1 ht).1
      rw [List.length_replicate] at hjl
      rw [List.getElem?_replicate,if_pos hjl] at ht
      cases ht
      rw [Aa5 _ n j (by omega),hsz]) hlen
     rw [Aa2] at hfill
     generalize hcells:(segsOf a ps.toList 0 (List.replicate n ty)).flatten = cells at hfill hrep
     have hcl:cells.length = n * ty.size:=by
      rw [(RepCs.length _ hrep).1,Xs]
     have hrun:(execOp a.eval o).run C.M w = .ok (.value (.slice (some ⟨w.heap.size,0,none⟩) n n)) (w.alloc (.cells (List.toArray cells) e)):=by
      have e1:(ps.map fun (i,x) => (i,a.eval x)).toList = ps.toList.map fun p => (p.1,a.eval p.2):=by simp
      by_cases hn0:n = 0
      ·subst hn0
       have hps:ps.toList = []:=by
        cases hp:ps.toList with
        | nil => rfl
        | cons p l => exact absurd (hlt p (by rw [hp]; simp)) (by omega)
       have hce:cells = []:=List.eq_nil_of_length_eq_zero (by simpa using hcl)
       have hpa:ps = #[]:=by rw [<- Array.toArray_toList (xs:=ps),hps]
       subst hce hpa
       simp [execOp,ho,Instr.buildSlice,run_underlying hu,sizeOf,typeInfo,hi,Instr.fill,newRow,Array.range_zero']
      ·have hne:¬ n * i.size = 0:=by
        rw [hsz]
        intro h0
        rcases Nat.mul_eq_zero.1 h0 with h' | h' <;> omega
       have:=run_buildSlice (P:=C.M) w t e n (ps.map fun (i,x) => (i,a.eval x)) (List.toArray cells) i zz hu hi hzi (by rw [hsz]; simp; omega) hne (by
        rw [e1]
        have hm:=Aan ty.zcells n
        rw [hzl] at hm
        unfold madeCells at hm
        rw [hsz,hzc] at *
        rw [hm]
        exact hfill)
       simp only [execOp,ho,Sem.run_bind,this,Result.andThen_ok,Sem.run_pure]
     obtain ⟨g1,g2,g3⟩:=h.alloced (.cells (List.toArray cells) e)
     obtain ⟨T',D,s1,d1,r1⟩:=Z4 n hrep hle tk.nodup
     have hlt':∀ k ∈ Tx,k < w.heap.size:=fun k hk => by obtain ⟨i,_,hi⟩:=tk.sub k hk; exact (h.new i k hi).2
     have hkd:∀ S:List Nat,(∀ b ∈ S,b < w.heap.size /\ b ∉ Tx) -> Keeps w P (w.alloc (.cells (List.toArray cells) e)) (P.add w D) S:=fun S hS => by
      have k1:=g1 S fun b hb => (hS b hb).1
      exact ⟨⟨k1.later.size,fun _ _ hp => .inl hp,k1.later.cell,k1.later.blk⟩,k1.block,fun b hb q hq => by
       rcases hq with hq | ⟨hq,_⟩
       ·exact hq
       ·exact absurd (d1 b hq).1 (hS b hb).2⟩
     have hcell:∀ k q v,w.cell? ⟨k,q,none⟩ = some v -> (w.alloc (.cells (List.toArray cells) e)).cell? ⟨k,q,none⟩ = some v:=fun k q v hv => by
      rw [World.cell?_of_block (Below.heap_alloc w _ k (World.block_lt_of_cell? w ⟨k,q,none⟩ hv))]; exact hv
     have hk2:∀ S:List Nat,(∀ b ∈ S,b < w.heap.size) -> Keeps w (P.add w D) (w.alloc (.cells (List.toArray cells) e)) (P.add w D) S:=fun S hS =>
      ⟨⟨by simp,fun _ _ hp => hp,fun k q v _ hv => hcell k q v hv,fun k _ hlt _ => Below.heap_alloc w _ k hlt⟩,(g1 S hS).block,fun _ _ _ hp => hp⟩
     have hnew:=Abf (e:=e) r1 (by rw [hcl,Ri]) (by rw [Ri]; exact hnmax) (fun q hq => by
      rcases hq with hq | ⟨hq,_⟩
      ·exact g3 q hq
      ·exact absurd (hlt' _ (d1 _ hq).1) (Nat.lt_irrefl _)) (fun k hk => hlt' k (s1.subset hk)) hk2
     rw [Ri] at hnew
     obtain ⟨Tn',hd⟩:=h.give hc rfl tk (y:=z) (v:=.slice (some ⟨w.heap.size,0,none⟩) n n) (Td:=w.heap.size :: T') (P':=P.add w D)
      (g2.add2 (fun k hk => by
       obtain ⟨i,_,hi⟩:=tk.sub k (d1 k hk).1
       exact (h.new i k hi).1) (fun k q hq => by
        rcases hq with hq | ⟨hq,v,hv⟩
        ·exact g2.there k q hq
        ·exact ⟨v,hcell k q v hv⟩)) (by simp) hkd (fun tm Tf => hnew) (List.nodup_cons.2 ⟨fun hm => absurd (hlt' _ (s1.subset hm)) (Nat.lt_irrefl _),tk.nodup.sublist s1⟩) (fun b hb => by
       rcases List.mem_cons.1 hb with rfl | hb
       ·exact .inr ⟨Nat.le_refl _,by simp⟩
       ·exact .inl (s1.subset hb))
     exact Jh hrun (h.did hc hd)
   ·cases hs
  ·cases hs
 ·cases hs
end
end Go.Abs
