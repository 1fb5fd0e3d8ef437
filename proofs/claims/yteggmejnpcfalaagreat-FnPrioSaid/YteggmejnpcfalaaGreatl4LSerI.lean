/-
  Plain laws: the program's schedules made by an order of activities are found or not; what is found is valid, and has the modes that are chosen. Condition: the project is valid.
-/
import Derived.Test.YteggmejnpcfalaaGreatl4LOrdI
import Derived.Test.YteggmejnpcfalaaGreatl4LSetM
namespace Go.Proofs.YteggmejnpcfalaaGreat
open Go.Abs
set_option linter.unusedVariables false
set_option linter.unusedSimpArgs false
theorem hasB_iffI {l:List Int} {n:Int}:hasB l n = true ↔ n ∈ l:=by
 unfold hasB
 rw [List.any_eq_true]
 exact ⟨fun ⟨x,hx,h⟩ => (eqZ_iff.1 h) ▸ hx,fun h => ⟨n,h,eqZ_self n⟩⟩
theorem set_of_ltI {l:List Int} (h:l.Pairwise (· < ·)):setB l = true:=by
 unfold setB
 rw [List.all_eq_true]
 intro i hi
 have hi:i < l.length:=by simpa using hi
 rw [List.pairwise_iff_getElem] at h
 cases i with
 | zero => rfl
 | succ j =>
  have:=h j (j + 1) (by omega) hi (by omega)
  simp only [ordI]
  rw [List.getElem?_eq_getElem hi,List.getElem?_eq_getElem (show j < l.length by omega)]
  simp only [notB_not,Bool.not_eq_true',Bool.eq_false_iff,Ne,leZ_iff]
  omega
/-- a plan: its modes are the chosen ones -/
structure PlG (p:D_Project) (cm:Nat -> Int) (s:D_Schedule) (d:List Int):Prop where
 f:formB p s = true
 asc:Asc d
 ain:actsIn p d
 md:∀ a:Nat,(a:Int) ∈ d -> getI s.2.1 (a:Int) = some (cm a)
variable {p:D_Project} {cm:Nat -> Int} {s:D_Schedule} {d:List Int}
theorem PlG.plan (h:PlG p cm s d):planB p (s,d,()) = true:=by
 unfold planB
 have h1:subB d (iotaI p.2.1.length) = true:=by
  unfold subB
  rw [List.all_eq_true]
  intro o ho
  obtain ⟨i,rfl,hi⟩:=h.ain o ho
  exact hasB_iffI.2 (List.mem_map.2 ⟨i,List.mem_range.2 hi,rfl⟩)
 simp only [h.f,set_of_ltI h.asc,h1,Bool.and_self]
theorem PlG.len (h:PlG p cm s d):d.length <= 6:=(plan_at h.plan).2.2.2
theorem PlG.put (h:PlG p cm s d) {a:Nat} (haa:a < p.2.1.length) (hn:(a:Int) ∉ d) {m t:Int} (ht:inB t 0 60 = true) (hm:inB m 0 (subZ .i64 (lenI p.2.1[a].2.2.1) 1) = true) (hc:m = cm a):PlG p cm (putS s (a:Int) m t) (insV (a:Int) d):=by
 obtain ⟨n1,n2⟩:=form_len h.f
 refine ⟨form_put h.f haa ht hm,insV_asc h.asc hn,acts_ins h.ain haa,fun b hb => ?_⟩
 rcases insV_mem.1 hb with e | hb
 ·have e:b = a:=by omega
  subst e
  show getI (setI s.2.1 (b:Int) (fun _ => m)) (b:Int) = _
  rw [getI_setI_eq (getI_lt (show b < s.2.1.length by omega)),hc]
 ·have hne:b ≠ a:=fun e => hn (e ▸ hb)
  show getI (setI s.2.1 (a:Int) (fun _ => m)) (b:Int) = _
  rw [getI_setI_ne hne]
  exact h.md b hb
theorem PlG.nil (h:projB p = true) (cm:Nat -> Int):PlG p cm (List.replicate p.2.1.length 0,(List.replicate p.2.1.length 0,())) []:=by
 refine ⟨?_,List.Pairwise.nil,(fun o ho => by cases ho),(fun a ha => by cases ha)⟩
 have h6:=(proj_acts h).2
 unfold formB
 have e:eqZ (lenI (List.replicate p.2.1.length (0:Int))) (lenI p.2.1) = true:=by rw [lenI_eq,lenI_eq,List.length_replicate]; exact eqZ_self _
 simp only [h,e,Bool.true_and,List.all_eq_true,List.mem_range]
 intro i hi
 obtain ⟨hle1,hle⟩:=modes_le h hi
 unfold formI
 rw [List.getElem?_eq_getElem hi,List.getElem?_eq_getElem (show i < (List.replicate p.2.1.length (0:Int)).length by simpa using hi)]
 simp only [List.getElem_replicate,Bool.and_eq_true]
 exact ⟨rfl,by rw [inB_iff,lenI_eq,subZ64 (by omega) (by omega)]; omega⟩
theorem NewPlan_T (hp:Sm_Project 1099511627776 p) (h:projB p = true) (u:Unit):impl_NewPlan (p,u) () = some (((List.replicate p.2.1.length 0,(List.replicate p.2.1.length 0,())),([],())),()):=by
 have h6:=(proj_acts h).2
 obtain ⟨z,hz⟩:∃ z:D_Plan,z = (([],([],())),([],())):=⟨_,rfl⟩
 have l0:=fun A:Type => fold_loop (A:=A) (F:=impl_NewPlan_L0) (fun i (x:D_Plan) => ((i:Int),((p.2.1.length:Int),(x,(z,()))))) p.2.1.length (fun i x => x = ((List.replicate i 0,(List.replicate i 0,())),([],()))) (fun i _ => ((List.replicate (i + 1) 0,(List.replicate (i + 1) 0,())),([],())))
  (fun x => Sum.inl (false,((p.2.1.length:Int),((p.2.1.length:Int),(x,(z,())))))) (by omega)
  (fun i x hi hx => by
   subst hx
   have ha:addI (List.replicate i (0:Int)) [0] = some (List.replicate (i + 1) 0):=by
    rw [addI_ok (by rw [room_eq,List.length_replicate]; simp only [List.length_singleton]; omega),List.replicate_succ']
   refine ⟨?_,rfl⟩
   unfold impl_NewPlan_L0
   simp only [lt_yes hi,if_true,ha,some_bind',idxN hi (Nat.le_refl _) (show p.2.1.length <= 1099511627776 by omega)])
  (fun x _ => by
   unfold impl_NewPlan_L0
   simp only [lt_no,Bool.false_eq_true,if_false])
  (a:=(([],([],())),([],()))) rfl
 have hI:=(l0 Unit).2
 have l1:=fun A:Type => (l0 A).1
 rw [hI] at l1
 have e0:(((0:Nat):Int),((p.2.1.length:Int),(((([],([],())),([],())):D_Plan),(z,())))) = ((0:Int),((p.2.1.length:Int),(((([],([],())),([],())):D_Plan),(z,())))):=rfl
 rw [e0,hz] at l1
 unfold impl_NewPlan
 simp only [ProjectOk_impl _ _ hp,h,some_bind',notB_true,Bool.false_eq_true,if_false,lenI_eq,l1]
theorem Clamp_T (l:List Int) (u:Unit) (hl:l.length <= 1099511627776):∃ v,impl_ClampedSum (l,u) () = some (v,()):=by
 have key:∃ v:Int,∀ A:Type,loopN (A:=A) big impl_ClampedSum_L0 (0,(l.length:Int),l,0,()) = some (.exit (Sum.inl (false,(l.length:Int),(l.length:Int),l,v,()))):=by
  rcases one_loop (F:=impl_ClampedSum_L0) (fun k (v:Int) => ((k:Int),(l.length:Int),l,v,())) l.length (fun _ _ => True) (fun o => ∃ v,o = Sum.inl (false,(l.length:Int),(l.length:Int),l,v,())) (fun _ => False) hl
   (fun k v hk _ => by
    by_cases hk':k < l.length
    ·refine .inl ⟨addZ .i64 v (minI (maxI l[k] (-100000)) 100000),hk',?_,trivial⟩
     unfold impl_ClampedSum_L0
     simp only [lt_yes hk',if_true,getI_lt hk',some_bind',idxN hk' (Nat.le_refl _) hl]
    ·obtain rfl:k = l.length:=by omega
     refine .inr (.inl ⟨_,?_,v,rfl⟩)
     unfold impl_ClampedSum_L0
     simp only [lt_no,Bool.false_eq_true,if_false])
   (a:=0) rfl trivial with ⟨o,e,v,rfl⟩ | ⟨c,-,hc⟩
  ·exact ⟨v,e⟩
  ·exact absurd hc id
 obtain ⟨v,e⟩:=key
 unfold impl_ClampedSum
 simp only [lenI_eq,e]
 exact ⟨_,rfl⟩
/-- a mode is chosen -/
theorem Choose_T (hp:Sm_Project 1099511627776 p) (h:projB p = true) (low:Bool) {a:Nat} (haa:a < p.2.1.length):∃ m:Int,inB m 0 (subZ .i64 (lenI p.2.1[a].2.2.1) 1) = true /\ ∀ u,impl_ChooseMode (p,(a:Int),low,u) () = some (m,()):=by
 obtain ⟨h1,h3⟩:=modes_le h haa
 have hA:inB (a:Int) 0 (subZ .i64 (lenI p.2.1) 1) = true:=inB_atP hp.2.1.1 haa
 have hsm:=(hp.2.1.2 _ (List.getElem_mem haa)).2.2.1
 generalize hL:p.2.1[a].2.2.1 = L at *
 have hb:L.length <= 1099511627776:=by omega
 have key:∃ (v m:Int),(0 <= m /\ m < L.length) /\ ∀ A:Type,loopN (A:=A) big impl_ChooseMode_L0 (0,(L.length:Int),L,low,0,0,()) = some (.exit (Sum.inl (false,(L.length:Int),(L.length:Int),L,low,v,m,()))):=by
  rcases one_loop (F:=impl_ChooseMode_L0) (fun k (st:Int × Int) => ((k:Int),(L.length:Int),L,low,st.1,st.2,())) L.length (fun k st => 0 <= st.2 /\ st.2 < L.length) (fun o => ∃ (v m:Int),(0 <= m /\ m < L.length) /\ o = Sum.inl (false,(L.length:Int),(L.length:Int),L,low,v,m,())) (fun _ => False) hb
   (fun k st hk hst => by
    obtain ⟨v,m⟩:=st
    by_cases hk':k < L.length
    ·have hmd:=hsm.2 _ (List.getElem_mem hk')
     have fin:∀ n:Int,(low = false -> n = L[k].1) -> (low = true -> ∃ x y,impl_ClampedSum (L[k].2.1,()) () = some (x,()) /\ impl_ClampedSum (L[k].2.2.1,()) () = some (y,()) /\ n = addZ .i64 x y) ->
       ∃ a':Int × Int,k < L.length /\ impl_ChooseMode_L0 ((k:Int),(L.length:Int),L,low,v,m,()) = some (.norm (((k + 1:Nat):Int),(L.length:Int),L,low,a'.1,a'.2,())) /\ 0 <= a'.2 /\ a'.2 < L.length:=by
      intro n hf ht
      cases low with
      | false =>
       have hn:=hf rfl
       subst hn
       rcases tf (eqZ (k:Int) 0) with q | q
       ·rcases tf (ltZ L[k].1 v) with q2 | q2
        ·refine ⟨(v,m),hk',?_,hst⟩
         unfold impl_ChooseMode_L0
         simp only [lt_yes hk',if_true,getI_lt hk',some_bind',q,q2,Bool.false_eq_true,if_false,idxN hk' (Nat.le_refl _) hb]
        ·refine ⟨(L[k].1,(k:Int)),hk',?_,by show (0:Int) <= (k:Int) /\ (k:Int) < _; omega⟩
         unfold impl_ChooseMode_L0
         simp only [lt_yes hk',if_true,getI_lt hk',some_bind',q,q2,Bool.false_eq_true,if_false,idxN hk' (Nat.le_refl _) hb]
       ·refine ⟨(L[k].1,(k:Int)),hk',?_,by show (0:Int) <= (k:Int) /\ (k:Int) < _; omega⟩
        unfold impl_ChooseMode_L0
        simp only [lt_yes hk',if_true,getI_lt hk',some_bind',q,Bool.false_eq_true,if_false,idxN hk' (Nat.le_refl _) hb]
      | true =>
       obtain ⟨x,y,ex,ey,hn⟩:=ht rfl
       subst hn
       rcases tf (eqZ (k:Int) 0) with q | q
       ·rcases tf (ltZ (addZ .i64 x y) v) with q2 | q2
        ·refine ⟨(v,m),hk',?_,hst⟩
         unfold impl_ChooseMode_L0
         simp only [lt_yes hk',if_true,getI_lt hk',some_bind',ex,ey,q,q2,Bool.false_eq_true,if_false,idxN hk' (Nat.le_refl _) hb]
        ·refine ⟨(addZ .i64 x y,(k:Int)),hk',?_,by show (0:Int) <= (k:Int) /\ (k:Int) < _; omega⟩
         unfold impl_ChooseMode_L0
         simp only [lt_yes hk',if_true,getI_lt hk',some_bind',ex,ey,q,q2,Bool.false_eq_true,if_false,idxN hk' (Nat.le_refl _) hb]
       ·refine ⟨(addZ .i64 x y,(k:Int)),hk',?_,by show (0:Int) <= (k:Int) /\ (k:Int) < _; omega⟩
        unfold impl_ChooseMode_L0
        simp only [lt_yes hk',if_true,getI_lt hk',some_bind',ex,ey,q,Bool.false_eq_true,if_false,idxN hk' (Nat.le_refl _) hb]
     obtain ⟨x,ex⟩:=Clamp_T L[k].2.1 () hmd.2.1.1
     obtain ⟨y,ey⟩:=Clamp_T L[k].2.2.1 () hmd.2.2.1.1
     exact .inl (fin (if low = false then L[k].1 else addZ .i64 x y) (fun e => by rw [if_pos e]) (fun e => ⟨x,y,ex,ey,by rw [if_neg (by rw [e]; simp)]⟩))
    ·obtain rfl:k = L.length:=by omega
     refine .inr (.inl ⟨_,?_,v,m,hst,rfl⟩)
     unfold impl_ChooseMode_L0
     simp only [lt_no,Bool.false_eq_true,if_false])
   (a:=(0,0)) rfl (by show (0:Int) <= 0 /\ (0:Int) < _; omega) with ⟨o,e,v,m,hm,rfl⟩ | ⟨c,-,hc⟩
  ·exact ⟨v,m,hm,e⟩
  ·exact absurd hc id
 obtain ⟨v,m,hm,e⟩:=key
 refine ⟨m,by rw [inB_iff,lenI_eq,subZ64 (by omega) (by omega)]; omega,fun u => ?_⟩
 rw [lenI_eq] at hA
 unfold impl_ChooseMode
 simp only [ProjectOk_impl _ _ hp,h,some_bind',notB_true,Bool.false_eq_true,if_false,hasActivity_eq,hA,getI_lt haa,hL,lenI_eq,e]
/-- whether an activity may come next -/
theorem Ready_T (hp:Sm_Project 1099511627776 p) (h:projB p = true) (hd:d.length <= 1099511627776) (a:Int) (u:Unit):∃ b,impl_Project_isReady (p,a,d,u) () = some (b,()):=by
 have hk12:=(proj_sizes h).2.2
 have hq:∀ k ∈ p.2.2.1,∃ b,impl_Project_isReady_1 (k,()) (a,p,d,()) = some (b,()):=fun k hk => by
  obtain ⟨g,eg⟩:=gapI_T hp h hk ()
  unfold impl_Project_isReady_1
  rcases tf (eqZ k.2.1 a) with q | q
  ·simp only [q,Bool.false_eq_true,if_false,some_bind']; exact ⟨_,rfl⟩
  ·rcases tf (ltZ 0 g) with q2 | q2 <;> simp only [q,if_true,eg,some_bind',q2,Bool.false_eq_true,if_false,SetHas_impl _ _ _ hd] <;> exact ⟨_,rfl⟩
 have key:(∃ o:Sum (Bool × (Int × (Int × (((D_Link × Unit) -> Option Bool) × ((List D_Link) × Unit))))) Empty,(∀ A:Type,loopN (A:=A) big slices_IndexFunc_impl_Link_impl_Link_L0 (0,(p.2.2.1.length:Int),(fun v0 => Option.bind (impl_Project_isReady_1 v0 (a,p,d,())) fun v1 => some v1.1),p.2.2.1,()) = some (.exit o)) /\ ∃ z,o = Sum.inl z) \/
   ∃ c:Int × Unit,(∀ A:Type,loopN (A:=A) big slices_IndexFunc_impl_Link_impl_Link_L0 (0,(p.2.2.1.length:Int),(fun v0 => Option.bind (impl_Project_isReady_1 v0 (a,p,d,())) fun v1 => some v1.1),p.2.2.1,()) = some (.ret c)) /\ True:=
  one_loop (F:=slices_IndexFunc_impl_Link_impl_Link_L0) (fun k (_:Unit) => ((k:Int),(p.2.2.1.length:Int),(fun v0 => Option.bind (impl_Project_isReady_1 v0 (a,p,d,())) fun v1 => some v1.1),p.2.2.1,())) p.2.2.1.length (fun _ _ => True) (fun o => ∃ z,o = Sum.inl z) (fun _ => True) hp.2.2.1.1
   (fun k _ hk _ => by
    by_cases hk':k < p.2.2.1.length
    ·obtain ⟨b,eb⟩:=hq _ (List.getElem_mem hk')
     cases b with
     | false =>
      refine .inl ⟨(),hk',?_,trivial⟩
      unfold slices_IndexFunc_impl_Link_impl_Link_L0
      simp only [lt_yes hk',if_true,getI_lt hk',some_bind',eb,Bool.false_eq_true,if_false,idxN hk' (Nat.le_refl _) hp.2.2.1.1]
     | true =>
      refine .inr (.inr ⟨((k:Int),()),?_,trivial⟩)
      unfold slices_IndexFunc_impl_Link_impl_Link_L0
      simp only [lt_yes hk',if_true,getI_lt hk',some_bind',eb]
    ·obtain rfl:k = p.2.2.1.length:=by omega
     refine .inr (.inl ⟨Sum.inl (false,(p.2.2.1.length:Int),(p.2.2.1.length:Int),(fun v0 => Option.bind (impl_Project_isReady_1 v0 (a,p,d,())) fun v1 => some v1.1),p.2.2.1,()),?_,_,rfl⟩)
     unfold slices_IndexFunc_impl_Link_impl_Link_L0
     simp only [lt_no,Bool.false_eq_true,if_false])
   (a:=()) rfl trivial
 unfold impl_Project_isReady slices_ContainsFunc_impl_Link_impl_Link slices_IndexFunc_impl_Link_impl_Link
 rcases key with ⟨o,e,z,rfl⟩ | ⟨c,e,-⟩ <;> simp only [lenI_eq,e,some_bind'] <;> exact ⟨_,rfl⟩
theorem PlG.fits (hp:Sm_Project 1099511627776 p) (hG:PlG p cm s d) {a:Nat} (haa:a < p.2.1.length) {m:Int} (hm:inB m 0 (subZ .i64 (lenI p.2.1[a].2.2.1) 1) = true) (t:Int):∃ b,(b = true -> inB t 0 60 = true /\ (a:Int) ∉ d) /\ ∀ u,impl_PlanFits (p,(s,d,()),(a:Int),m,t,u) () = some (b,()):=by
 have hd:=hG.len
 have hI:=inB_atP hp.2.1.1 haa
 by_cases hn:(a:Int) ∈ d
 ·refine ⟨false,(fun e => by cases e),fun u => PlanFits_no p (s,d,()) (a:Int) m t u hp (show d.length <= 1099511627776 by omega) ?_⟩
  unfold okV24
  simp only [hG.plan,hI,hasB_iffI.2 hn,if_true]
 ·have hH:hasB d (a:Int) = false:=by rw [Bool.eq_false_iff,Ne,hasB_iffI]; exact hn
  refine ⟨inB t 0 60 && fitsV p s d a m t,fun e => ⟨((Bool.and_eq_true _ _).mp e).1,hn⟩,fun u => PlanFits_yes p s d a m t u hp (by omega) hG.plan haa hH hm⟩
theorem PlG.early (hp:Sm_Project 1099511627776 p) (hG:PlG p cm s d) {a:Nat} (haa:a < p.2.1.length) {m:Int} (hm:inB m 0 (subZ .i64 (lenI p.2.1[a].2.2.1) 1) = true):∃ (t:Int) (b:Bool),(b = true -> inB t 0 60 = true /\ (a:Int) ∉ d) /\ ∀ u,impl_PlanEarliest (p,(s,d,()),(a:Int),m,0,u) () = some ((t,b,()),()):=by
 have h0:maxI 0 0 = 0:=rfl
 rcases one_loop (F:=impl_PlanEarliest_L0) (fun t (_:Unit) => ((t:Int),p,((s,d,()):D_Plan),(a:Int),m,())) 61 (fun _ _ => True) (fun o => ∃ z,o = Sum.inl z) (fun c => ∃ t:Int,c = ((t,true,()),()) /\ inB t 0 60 = true /\ (a:Int) ∉ d) (by omega)
  (fun t _ ht _ => by
   by_cases ht':t < 61
   ·have hle:leZ (t:Int) 60 = true:=by rw [leZ_iff]; omega
    have had:addZ .i64 (t:Int) 1 = ((t + 1:Nat):Int):=by rw [addZ64 (by omega) (by omega)]; omega
    obtain ⟨b,hb,eb⟩:=hG.fits hp haa hm (t:Int)
    cases b with
    | false =>
     refine .inl ⟨(),ht',?_,trivial⟩
     unfold impl_PlanEarliest_L0
     simp only [hle,if_true,eb,some_bind',Bool.false_eq_true,if_false,had]
    | true =>
     refine .inr (.inr ⟨(((t:Int),true,()),()),?_,(t:Int),rfl,hb rfl⟩)
     unfold impl_PlanEarliest_L0
     simp only [hle,if_true,eb,some_bind']
   ·have hle:leZ (t:Int) 60 = false:=by rw [Bool.eq_false_iff,Ne,leZ_iff]; omega
    refine .inr (.inl ⟨Sum.inl (false,(t:Int),p,((s,d,()):D_Plan),(a:Int),m,()),?_,_,rfl⟩)
    unfold impl_PlanEarliest_L0
    simp only [hle,Bool.false_eq_true,if_false])
  (a:=()) (s:=((0:Int),p,((s,d,()):D_Plan),(a:Int),m,())) rfl trivial with ⟨o,e,z,rfl⟩ | ⟨c,e,t,rfl,hc⟩
 ·refine ⟨0,false,(fun e => by cases e),fun u => ?_⟩
  unfold impl_PlanEarliest
  simp only [h0,e,some_bind']
 ·refine ⟨t,true,fun _ => hc,fun u => ?_⟩
  unfold impl_PlanEarliest
  simp only [h0,e,some_bind']
theorem PlG.with (hG:PlG p cm s d) {a:Nat} (haa:a < p.2.1.length) (hn:(a:Int) ∉ d) (m t:Int) (u:Unit):impl_Plan_with ((s,d,()),(a:Int),m,t,u) () = some ((putS s (a:Int) m t,insV (a:Int) d,()),()):=by
 have hd:=hG.len
 obtain ⟨n1,n2⟩:=form_len hG.f
 have h6:=(proj_acts (proj_of_form hG.f)).2
 have hcl:impl_Plan_copied ((s,d,()),()) () = some (((s.1,s.2.1,()),d,()),()):=by
  unfold impl_Plan_copied
  simp only [cloneP s.1 _ (by omega),cloneP s.2.1 _ (by omega),cloneP d _ (by omega),some_bind']
 unfold impl_Plan_with
 simp only [hcl,some_bind',SetAdd_i d (a:Int) _ (by omega) hG.asc hn,getI_lt (show a < s.1.length by omega),getI_lt (show a < s.2.1.length by omega)]
 rfl
/-- the end -/
theorem PlG.done (hp:Sm_Project 1099511627776 p) (hG:PlG p cm s d):∃ (z:D_Schedule) (ok:Bool),(ok = true -> okV p z = true /\ getI z.2.1 0 = some (cm 0)) /\ ∀ u,impl_finished (p,(s,d,()),u) () = some ((z,ok,()),()):=by
 rcases tf (eqZ (lenI d) (lenI p.2.1)) with q | q
 ·refine ⟨([],[],()),false,(fun e => by cases e),fun u => ?_⟩
  unfold impl_finished
  simp only [q,notB_false,some_bind',if_true]
 ·rcases tf (okV p s) with q2 | q2
  ·refine ⟨([],[],()),false,(fun e => by cases e),fun u => ?_⟩
   unfold impl_finished
   simp only [q,notB_true,Bool.false_eq_true,if_false,ScheduleOk_impl _ _ _ hp,some_bind',q2,notB_false,if_true]
  ·refine ⟨s,true,fun _ => ⟨q2,?_⟩,fun u => ?_⟩
   ·have hl:d.length = p.2.1.length:=by have:=eqZ_iff.1 q; rw [lenI_eq,lenI_eq] at this; omega
    have h1:=(proj_acts (proj_of_form hG.f)).1
    have hz:(0:Int) ∈ d:=by
     refine Classical.byContradiction fun hn => ?_
     have:=asc_len d 1 (p.2.1.length - 1) hG.asc (fun x hx => by
      obtain ⟨i,rfl,hi⟩:=hG.ain x hx
      have:i ≠ 0:=fun e => hn (by rw [e] at hx; exact hx)
      omega)
     omega
    exact hG.md 0 hz
   ·unfold impl_finished
    simp only [q,notB_true,Bool.false_eq_true,if_false,ScheduleOk_impl _ _ _ hp,some_bind',q2]
end Go.Proofs.YteggmejnpcfalaaGreat
