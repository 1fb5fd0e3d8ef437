/-
  Plain laws: the program's latest starts, tails and orders of activities are found: an order holds each activity once, or nothing where a cycle is found. Condition: the project is valid.
-/
import Derived.Test.YteggmejnpcfalaaGreatl4LCycI
import Derived.Test.YteggmejnpcfalaaGreatl4LSortM
namespace Go.Proofs.YteggmejnpcfalaaGreat
open Go.Abs
set_option linter.unusedVariables false
set_option linter.unusedSimpArgs false
theorem mat_row {n:Nat} {f:Nat -> Nat -> Int} {i:Nat} (hi:i < n):getI (matL n f) (i:Int) = some ((List.range n).map (f i)):=by
 have hl:i < (matL n f).length:=by rw [matL_length]; exact hi
 rw [getI_lt hl]
 simp [matL]
theorem row_val {n:Nat} {g:Nat -> Int} {k:Nat} (hk:k < n):getI ((List.range n).map g) (k:Int) = some (g k):=by
 have hl:k < ((List.range n).map g).length:=by simpa using hk
 rw [getI_lt hl]
 simp
theorem late_rowI {p:D_Project} (hp:Sm_Project 1099511627776 p) (h:projB p = true) (g:Nat -> Int) (out:List Int) (a b t:Int) (M:List (List Int)):∃ (fo:Bool) (v:Int),∀ A:Type,
  loopN (A:=A) big impl_LatestStarts_L0 (0,(p.2.1.length:Int),(List.range p.2.1.length).map g,false,out,0,a,b,M,t,p,()) = some (.exit (Sum.inl (false,(p.2.1.length:Int),(p.2.1.length:Int),(List.range p.2.1.length).map g,fo,out,v,a,b,M,t,p,()))):=by
 have h6:=(proj_acts h).2
 rcases one_loop (F:=impl_LatestStarts_L0) (fun k (st:Bool × Int) => ((k:Int),(p.2.1.length:Int),(List.range p.2.1.length).map g,st.1,out,st.2,a,b,M,t,p,())) p.2.1.length (fun _ _ => True)
  (fun o => ∃ (fo:Bool) (v:Int),o = Sum.inl (false,(p.2.1.length:Int),(p.2.1.length:Int),(List.range p.2.1.length).map g,fo,out,v,a,b,M,t,p,())) (fun _ => False) (by omega)
  (fun k st hk _ => by
   obtain ⟨fo,v⟩:=st
   by_cases hk':k < p.2.1.length
   ·obtain ⟨w,e⟩:=short_T hp h hk' ()
    have gr:=row_val (g:=g) hk'
    have hb:p.2.1.length <= 1099511627776:=by omega
    rcases tf (notB (eqZ (g k) (-1000))) with q | q
    ·refine .inl ⟨(fo,v),hk',?_,trivial⟩
     unfold impl_LatestStarts_L0
     simp only [lt_yes hk',if_true,gr,e,some_bind',q,Bool.false_eq_true,if_false,idxN hk' (Nat.le_refl _) hb]
    ·cases fo with
     | false =>
      refine .inl ⟨(true,subZ .i64 (subZ .i64 t w) (g k)),hk',?_,trivial⟩
      unfold impl_LatestStarts_L0
      simp only [lt_yes hk',if_true,gr,e,some_bind',q,notB_false,Bool.false_eq_true,if_false,idxN hk' (Nat.le_refl _) hb]
     | true =>
      rcases tf (ltZ (subZ .i64 (subZ .i64 t w) (g k)) v) with q2 | q2
      ·refine .inl ⟨(true,v),hk',?_,trivial⟩
       unfold impl_LatestStarts_L0
       simp only [lt_yes hk',if_true,gr,e,some_bind',q,q2,notB_true,Bool.false_eq_true,if_false,idxN hk' (Nat.le_refl _) hb]
      ·refine .inl ⟨(true,subZ .i64 (subZ .i64 t w) (g k)),hk',?_,trivial⟩
       unfold impl_LatestStarts_L0
       simp only [lt_yes hk',if_true,gr,e,some_bind',q,q2,notB_true,Bool.false_eq_true,if_false,idxN hk' (Nat.le_refl _) hb]
   ·obtain rfl:k = p.2.1.length:=by omega
    refine .inr (.inl ⟨_,?_,fo,v,rfl⟩)
    unfold impl_LatestStarts_L0
    simp only [lt_no,Bool.false_eq_true,if_false])
  (a:=(false,0)) rfl trivial with ⟨o,e,fo,v,rfl⟩ | ⟨c,-,hc⟩
 ·exact ⟨fo,v,e⟩
 ·exact absurd hc id
theorem Late_T {p:D_Project} (hp:Sm_Project 1099511627776 p) (h:projB p = true) {f:Nat -> Nat -> Int} (hd:∀ u,impl_Distances (p,u) () = some (matL p.2.1.length f,())) (t:Int):∃ l:List Int,l.length = p.2.1.length /\ ∀ u,impl_LatestStarts (p,t,u) () = some (l,()):=by
 have h6:=(proj_acts h).2
 have key:∃ l:List Int,(∀ A:Type,loopN (A:=A) big impl_LatestStarts_L1 (0,(p.2.1.length:Int),matL p.2.1.length f,t,p,[],()) = some (.exit (Sum.inl (false,(p.2.1.length:Int),(p.2.1.length:Int),matL p.2.1.length f,t,p,l,())))) /\ l.length = p.2.1.length:=by
  rcases one_loop (F:=impl_LatestStarts_L1) (fun i (out:List Int) => ((i:Int),(p.2.1.length:Int),matL p.2.1.length f,t,p,out,())) p.2.1.length (fun i out => out.length = i)
   (fun o => ∃ l:List Int,o = Sum.inl (false,(p.2.1.length:Int),(p.2.1.length:Int),matL p.2.1.length f,t,p,l,()) /\ l.length = p.2.1.length) (fun _ => False) (by omega)
   (fun i out hi ho => by
    by_cases hi':i < p.2.1.length
    ·obtain ⟨fo,v,ev⟩:=late_rowI hp h (f i) out (i:Int) (p.2.1.length:Int) t (matL p.2.1.length f)
     have ad:addI out [v] = some (out ++ [v]):=addI_ok (by rw [room_eq]; simp; omega)
     have hl:(List.map (f i) (List.range p.2.1.length)).length = p.2.1.length:=by simp
     refine .inl ⟨out ++ [v],hi',?_,by simp [ho]⟩
     unfold impl_LatestStarts_L1
     simp only [lt_yes hi',if_true,mat_row hi',some_bind',lenI_eq,hl,ev,ad,idxN hi' (Nat.le_refl _) (show p.2.1.length <= 1099511627776 by omega)]
    ·obtain rfl:i = p.2.1.length:=by omega
     refine .inr (.inl ⟨_,?_,out,rfl,ho⟩)
     unfold impl_LatestStarts_L1
     simp only [lt_no,Bool.false_eq_true,if_false])
   (a:=[]) rfl rfl with ⟨o,e,l,rfl,hl⟩ | ⟨c,-,hc⟩
  ·exact ⟨l,e,hl⟩
  ·exact absurd hc id
 obtain ⟨l,e,hl⟩:=key
 refine ⟨l,hl,fun u => ?_⟩
 unfold impl_LatestStarts
 simp only [hd,some_bind',lenI_eq,matL_length,e]
theorem Tail_T {p:D_Project} (hp:Sm_Project 1099511627776 p) (h:projB p = true) {f:Nat -> Nat -> Int} (hd:∀ u,impl_Distances (p,u) () = some (matL p.2.1.length f,())) {a:Nat} (ha:a < p.2.1.length) (u:Unit):∃ v,impl_TailLength (p,(a:Int),u) () = some (v,()):=by
 have h6:=(proj_acts h).2
 have hA:inB (a:Int) 0 (subZ .i64 (lenI p.2.1) 1) = true:=by
  rw [inB_iff,lenI_eq,subZ64 (by omega) (by omega)]
  omega
 obtain ⟨w0,ew0⟩:=short_T hp h ha ()
 have hl:(List.map (f a) (List.range p.2.1.length)).length = p.2.1.length:=by simp
 have h0:eqZ (p.2.1.length:Int) 0 = false:=by rw [Bool.eq_false_iff,Ne,eqZ_iff]; omega
 have key:∃ v:Int,∀ A:Type,loopN (A:=A) big impl_TailLength_L0 (0,(p.2.1.length:Int),(List.range p.2.1.length).map (f a),p,w0,()) = some (.exit (Sum.inl (false,(p.2.1.length:Int),(p.2.1.length:Int),(List.range p.2.1.length).map (f a),p,v,()))):=by
  rcases one_loop (F:=impl_TailLength_L0) (fun k (v:Int) => ((k:Int),(p.2.1.length:Int),(List.range p.2.1.length).map (f a),p,v,())) p.2.1.length (fun _ _ => True)
   (fun o => ∃ v,o = Sum.inl (false,(p.2.1.length:Int),(p.2.1.length:Int),(List.range p.2.1.length).map (f a),p,v,())) (fun _ => False) (by omega)
   (fun k v hk _ => by
    by_cases hk':k < p.2.1.length
    ·obtain ⟨w,e⟩:=short_T hp h hk' ()
     have gr:=row_val (g:=f a) hk'
     have hb:p.2.1.length <= 1099511627776:=by omega
     rcases tf (notB (eqZ (f a k) (-1000))) with q | q
     ·refine .inl ⟨v,hk',?_,trivial⟩
      unfold impl_TailLength_L0
      simp only [lt_yes hk',if_true,some_bind',gr,q,Bool.false_eq_true,if_false,idxN hk' (Nat.le_refl _) hb]
     ·refine .inl ⟨maxI v (addZ .i64 (f a k) w),hk',?_,trivial⟩
      unfold impl_TailLength_L0
      simp only [lt_yes hk',if_true,some_bind',gr,q,e,idxN hk' (Nat.le_refl _) hb]
    ·obtain rfl:k = p.2.1.length:=by omega
     refine .inr (.inl ⟨_,?_,v,rfl⟩)
     unfold impl_TailLength_L0
     simp only [lt_no,Bool.false_eq_true,if_false])
   (a:=w0) rfl trivial with ⟨o,e,v,rfl⟩ | ⟨c,-,hc⟩
  ·exact ⟨v,e⟩
  ·exact absurd hc id
 obtain ⟨v,e⟩:=key
 unfold impl_TailLength
 simp only [hd,some_bind',lenI_eq,matL_length,h0,Bool.false_eq_true,if_false,hasActivity_eq,notB_true]
 rw [lenI_eq] at hA
 simp only [hA,notB_true,Bool.false_eq_true,if_false,ew0,some_bind',mat_row ha,hl,e]
 exact ⟨_,rfl⟩
theorem ByKey_T {p:D_Project} (h:projB p = true) {key:(Int × Unit) -> Option Int} (hk:∀ a:Nat,a < p.2.1.length -> ∃ v,key ((a:Int),()) = some v):∃ l:List Int,l.Perm (iotaI p.2.1.length) /\ ∀ u,impl_Project_byKey (p,key,u) () = some (l,()):=by
 have h6:=(proj_acts h).2
 have hl:(iotaI p.2.1.length).length = p.2.1.length:=by simp [iotaI]
 obtain ⟨q,hs⟩:∃ q:Int -> Int -> Bool,∀ u,slices_SortStableFunc_int_int (iotaI p.2.1.length,(fun v2 => Option.bind (impl_Project_byKey_1 v2 (key,())) fun v3 => some v3.1),u) () = some ((),srtK q (iotaI p.2.1.length)):=⟨_,SortStable_eq (fun v2 => Option.bind (impl_Project_byKey_1 v2 (key,())) fun v3 => some v3.1) (fun x y => match key (x,()),key (y,()) with | some a,some b => ltZ a b | _,_ => false) (iotaI p.2.1.length) (by omega) (fun x hx y hy => by
  obtain ⟨i,hi,rfl⟩:=List.mem_map.1 hx
  obtain ⟨j,hj,rfl⟩:=List.mem_map.1 hy
  obtain ⟨a,ea⟩:=hk i (List.mem_range.1 hi)
  obtain ⟨b,eb⟩:=hk j (List.mem_range.1 hj)
  obtain ⟨k,ek,hlt⟩:=Compare_lt a b ()
  refine ⟨k,?_,?_⟩
  ·unfold impl_Project_byKey_1
   simp only [ea,eb,some_bind',ek]
  ·simp only [ea,eb]
   exact hlt)⟩
 refine ⟨_,srtK_perm q _,fun u => ?_⟩
 unfold impl_Project_byKey
 simp only [lenI_eq,intRange_i,intRange_s _ _ (show p.2.1.length <= 200 by omega),some_bind',hs]
theorem ord_len {p:D_Project} (h:projB p = true) {f:Nat -> Nat -> Int}:matL p.2.1.length f ≠ []:=fun e => by
 have h1:=congrArg List.length e
 rw [matL_length] at h1
 have:=(proj_acts h).1
 have h2:p.2.1.length = 0:=h1
 omega
/-- an order -/
theorem Ord_T {p:D_Project} (hp:Sm_Project 1099511627776 p) (h:projB p = true) {c:List Int} (hc:∀ u,impl_PositiveCycle (p,u) () = some (c,())) {rule:Int} (hr:rule = 1 \/ rule = 2 \/ rule = 3 \/ rule = 4) :
  ∃ l:List Int,(c ≠ [] -> l = []) /\ (c = [] -> l.Perm (iotaI p.2.1.length)) /\ ∀ u,impl_PriorityOrder (p,rule,u) () = some (l,()):=by
 obtain ⟨f,hd⟩:=Dist_T hp h hc
 by_cases hcc:c = []
 ·subst hcc
  have hd':∀ u,impl_Distances (p,u) () = some (matL p.2.1.length f,()):=fun u => by rw [hd,if_pos rfl]
  have hne:=ord_len h (f:=f)
  have step:∀ l:List Int,l.Perm (iotaI p.2.1.length) -> (∀ u,impl_PriorityOrder (p,rule,u) () = some (l,())) -> ∃ l:List Int,(([]:List Int) ≠ [] -> l = []) /\ (([]:List Int) = [] -> l.Perm (iotaI p.2.1.length)) /\ ∀ u,impl_PriorityOrder (p,rule,u) () = some (l,()):=fun l h1 h2 => ⟨l,fun h => absurd rfl h,fun _ => h1,h2⟩
  have un:∀ u,impl_PriorityOrder (p,rule,u) () = ((impl_Distances (p,()) ()).map (·.1)).bind fun d => if d = [] then some ([],())
    else if rule = 1 then (impl_Project_byKey (p,(fun a => (impl_PriorityOrder_1 a ()).map (·.1)),()) ()).map fun r => (r.1,())
    else if rule = 2 then ((impl_LatestStarts (p,p.1,()) ()).map (·.1)).bind fun l => (impl_Project_byKey (p,(fun a => (impl_PriorityOrder_2 a (l,())).map (·.1)),()) ()).map fun r => (r.1,())
    else if rule = 3 then (impl_Project_byKey (p,(fun a => (impl_PriorityOrder_3 a (p,())).map (·.1)),()) ()).map fun r => (r.1,())
    else if rule = 4 then (impl_Project_byKey (p,(fun a => (impl_Project_shortest (p,a) ()).map (·.1)),()) ()).map fun r => (r.1,())
    else some ([],()):=fun u => rfl
  rcases hr with rfl | rfl | rfl | rfl
  ·obtain ⟨l,h1,h2⟩:=ByKey_T h (key:=fun a => (impl_PriorityOrder_1 a ()).map (·.1)) (fun a ha => ⟨_,rfl⟩)
   refine step l h1 fun u => ?_
   rw [un,hd']
   simp only [Option.map_some,some_bind',hne,if_false,if_true,h2]
  ·obtain ⟨t,ht,et⟩:=Late_T hp h hd' p.1
   obtain ⟨l,h1,h2⟩:=ByKey_T h (key:=fun a => (impl_PriorityOrder_2 a (t,())).map (·.1)) (fun a ha => by
    unfold impl_PriorityOrder_2
    simp only [getI_lt (show a < t.length by omega),some_bind',Option.map_some]
    exact ⟨_,rfl⟩)
   refine step l h1 fun u => ?_
   rw [un,hd']
   simp only [Option.map_some,some_bind',hne,if_false,if_true,et,h2,show ¬ (2:Int) = 1 by decide]
  ·obtain ⟨l,h1,h2⟩:=ByKey_T h (key:=fun a => (impl_PriorityOrder_3 a (p,())).map (·.1)) (fun a ha => by
    obtain ⟨v,ev⟩:=Tail_T hp h hd' ha ()
    unfold impl_PriorityOrder_3
    simp only [ev,some_bind',Option.map_some]
    exact ⟨_,rfl⟩)
   refine step l h1 fun u => ?_
   rw [un,hd']
   simp only [Option.map_some,some_bind',hne,if_false,if_true,h2,show ¬ (3:Int) = 1 by decide,show ¬ (3:Int) = 2 by decide]
  ·obtain ⟨l,h1,h2⟩:=ByKey_T h (key:=fun a => (impl_Project_shortest (p,a) ()).map (·.1)) (fun a ha => by
    obtain ⟨v,ev⟩:=short_T hp h ha ()
    simp only [ev,Option.map_some]
    exact ⟨_,rfl⟩)
   refine step l h1 fun u => ?_
   rw [un,hd']
   simp only [Option.map_some,some_bind',hne,if_false,if_true,h2,show ¬ (4:Int) = 1 by decide,show ¬ (4:Int) = 2 by decide,show ¬ (4:Int) = 3 by decide]
 ·refine ⟨[],fun _ => rfl,fun h => absurd h hcc,fun u => ?_⟩
  show ((impl_Distances (p,()) ()).map (·.1)).bind (fun d => if d = [] then some ([],()) else _) = _
  rw [hd,if_neg hcc]
  simp only [Option.map_some,some_bind',if_true]
/-- a rule that there is not -/
theorem Ord_no {p:D_Project} (hp:Sm_Project 1099511627776 p) (h:projB p = true) {c:List Int} (hc:∀ u,impl_PositiveCycle (p,u) () = some (c,())) (u:Unit):impl_PriorityOrder (p,9,u) () = some ([],()):=by
 obtain ⟨f,hd⟩:=Dist_T hp h hc
 show ((impl_Distances (p,()) ()).map (·.1)).bind (fun d => if d = [] then some ([],()) else if (9:Int) = 1 then _ else if (9:Int) = 2 then _ else if (9:Int) = 3 then _ else if (9:Int) = 4 then _ else some ([],())) = _
 rw [hd]
 simp only [Option.map_some,some_bind',show ¬ (9:Int) = 1 by decide,show ¬ (9:Int) = 2 by decide,show ¬ (9:Int) = 3 by decide,show ¬ (9:Int) = 4 by decide,if_false,ite_self]
end Go.Proofs.YteggmejnpcfalaaGreat
