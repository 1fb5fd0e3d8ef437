/-
  Plain law: for every code the law FnPrio returns true.
-/
import Derived.Test.YteggmejnpcfalaaGreatl4LSerI
import Derived.Test.YteggmejnpcfalaaGreatl4LGenA
import Derived.KernelRfl
namespace Go.Proofs.YteggmejnpcfalaaGreat
open Go.Abs
set_option linter.unusedVariables false
set_option linter.unusedSimpArgs false
variable {p:D_Project} {cm:Nat -> Int} {s:D_Schedule} {d:List Int}
/-- the elements of an order -/
def InN (n:Nat) (o:List Int):Prop:=o.length <= 6 /\ ∀ x ∈ o,∃ i:Nat,x = (i:Int) /\ i < n
theorem Cm_T (hp:Sm_Project 1099511627776 p) (h:projB p = true) (low:Bool):∃ cm:Nat -> Int,∀ (a:Nat) (haa:a < p.2.1.length),inB (cm a) 0 (subZ .i64 (lenI p.2.1[a].2.2.1) 1) = true /\ ∀ u,impl_ChooseMode (p,(a:Int),low,u) () = some (cm a,()):=by
 have hx:∀ a:Nat,∃ m:Int,∀ (haa:a < p.2.1.length),inB m 0 (subZ .i64 (lenI p.2.1[a].2.2.1) 1) = true /\ ∀ u,impl_ChooseMode (p,(a:Int),low,u) () = some (m,()):=fun a => by
  by_cases haa:a < p.2.1.length
  ·obtain ⟨m,h1,h2⟩:=Choose_T hp h low haa
   exact ⟨m,fun _ => ⟨h1,h2⟩⟩
  ·exact ⟨0,fun e => absurd e haa⟩
 exact ⟨fun a => Classical.choose (hx a),fun a => Classical.choose_spec (hx a)⟩
theorem Idx_T {q:(Int × Unit) -> Option Bool} {o:List Int} (hl:o.length <= 1099511627776) (hq:∀ x ∈ o,∃ b,q (x,()) = some b):∃ r:Int,(r < 0 \/ ∃ (j:Nat) (hj:j < o.length),r = (j:Int) /\ q (o[j],()) = some true) /\ ∀ u,slices_IndexFunc_int_int (o,q,u) () = some (r,()):=by
 rcases one_loop (F:=slices_IndexFunc_int_int_L0) (fun k (_:Unit) => ((k:Int),(o.length:Int),q,o,())) o.length (fun _ _ => True) (fun x => ∃ z,x = Sum.inl z) (fun c => ∃ (j:Nat) (hj:j < o.length),c = ((j:Int),()) /\ q (o[j],()) = some true) hl
  (fun k _ hk _ => by
   by_cases hk':k < o.length
   ·obtain ⟨b,eb⟩:=hq _ (List.getElem_mem hk')
    cases b with
    | false =>
     refine .inl ⟨(),hk',?_,trivial⟩
     unfold slices_IndexFunc_int_int_L0
     simp only [lt_yes hk',if_true,getI_lt hk',some_bind',eb,Bool.false_eq_true,if_false,idxN hk' (Nat.le_refl _) hl]
    | true =>
     refine .inr (.inr ⟨((k:Int),()),?_,k,hk',rfl,eb⟩)
     unfold slices_IndexFunc_int_int_L0
     simp only [lt_yes hk',if_true,getI_lt hk',some_bind',eb]
   ·obtain rfl:k = o.length:=by omega
    refine .inr (.inl ⟨Sum.inl (false,(o.length:Int),(o.length:Int),q,o,()),?_,_,rfl⟩)
    unfold slices_IndexFunc_int_int_L0
    simp only [lt_no,Bool.false_eq_true,if_false])
  (a:=()) (s:=((0:Int),(o.length:Int),q,o,())) rfl trivial with ⟨x,e,z,rfl⟩ | ⟨c,e,j,hj,rfl,hc⟩
 ·refine ⟨-1,.inl (by omega),fun u => ?_⟩
  unfold slices_IndexFunc_int_int
  simp only [lenI_eq,e,some_bind']
 ·refine ⟨(j:Int),.inr ⟨j,hj,rfl,hc⟩,fun u => ?_⟩
  unfold slices_IndexFunc_int_int
  simp only [lenI_eq,e,some_bind']
theorem Pick_T (hp:Sm_Project 1099511627776 p) (hG:PlG p cm s d) {a:Nat} (haa:a < p.2.1.length):∃ b,(b = true -> (a:Int) ∉ d) /\ impl_SerialSchedule_1 ((a:Int),()) (p,(s,d,()),()) = some (b,()):=by
 have hI:=inB_atP hp.2.1.1 haa
 have hd:=hG.len
 have hb:d.length <= 1099511627776:=by omega
 obtain ⟨b,eb⟩:=Ready_T hp (proj_of_form hG.f) hb (a:Int) ()
 unfold impl_SerialSchedule_1
 rcases tf (hasB d (a:Int)) with q | q
 ·refine ⟨b,fun _ => hasB_not q,?_⟩
  simp only [hasActivity_eq,hI,some_bind',if_true,SetHas_impl d _ _ hb,q,notB_false,eb]
 ·refine ⟨false,(fun e => by cases e),?_⟩
  simp only [hasActivity_eq,hI,some_bind',if_true,SetHas_impl d _ _ hb,q,notB_true,Bool.false_eq_true,if_false]
theorem serL_T (hp:Sm_Project 1099511627776 p) (h:projB p = true) {low:Bool} (hcm:∀ (a:Nat) (haa:a < p.2.1.length),inB (cm a) 0 (subZ .i64 (lenI p.2.1[a].2.2.1) 1) = true /\ ∀ u,impl_ChooseMode (p,(a:Int),low,u) () = some (cm a,())) {o:List Int} (ho:InN p.2.1.length o) :
  ∀ (k:Nat) (s:D_Schedule) (d:List Int),PlG p cm s d -> ∃ r,serL (fun d => (slices_IndexFunc_int_int (o,(fun l => (impl_SerialSchedule_1 l (p,d,())).map (·.1)),()) ()).map (·.1)) o (fun a => (impl_ChooseMode (p,a,low,()) ()).map (·.1)) (fun d a m => (impl_PlanEarliest (p,d,a,m,(0:Int),()) ()).map fun r => (r.1.1,r.1.2.1)) (fun d a m t => (impl_Plan_with (d,a,m,t,()) ()).map (·.1)) k (s,d,()) = some r /\
   ∀ y,r = some y -> ∃ s' d',y = (s',d',()) /\ PlG p cm s' d'
 | 0,s,d,hG => ⟨some (s,d,()),rfl,fun y e => by cases e; exact ⟨s,d,rfl,hG⟩⟩
 | k + 1,s,d,hG => by
  obtain ⟨r,hr,er⟩:=Idx_T (q:=fun l => (impl_SerialSchedule_1 l (p,((s,d,()):D_Plan),())).map (·.1)) (o:=o) (by have:=ho.1; omega) (fun x hx => by
   obtain ⟨i,rfl,hi⟩:=ho.2 x hx
   obtain ⟨b,-,eb⟩:=Pick_T hp hG hi
   exact ⟨b,by simp only [eb,Option.map_some]⟩)
  show ∃ r',(Option.bind ((slices_IndexFunc_int_int (o,(fun l => (impl_SerialSchedule_1 l (p,((s,d,()):D_Plan),())).map (·.1)),()) ()).map (·.1)) fun n => if n < 0 then some none else (getI o n).bind fun a => ((impl_ChooseMode (p,a,low,()) ()).map (·.1)).bind fun m => ((impl_PlanEarliest (p,((s,d,()):D_Plan),a,m,(0:Int),()) ()).map fun r => (r.1.1,r.1.2.1)).bind fun r => if r.2 = true then ((impl_Plan_with (((s,d,()):D_Plan),a,m,r.1,()) ()).map (·.1)).bind fun y => serL _ o _ _ _ k y else some none) = some r' /\ _
  rw [er]
  simp only [Option.map_some,some_bind']
  rcases hr with hneg | ⟨j,hj,rfl,hj2⟩
  ·rw [if_pos hneg]
   exact ⟨none,rfl,fun y e => by cases e⟩
  ·rw [if_neg (by omega),getI_lt hj]
   obtain ⟨i,ei,hi⟩:=ho.2 _ (List.getElem_mem hj)
   obtain ⟨b,hb,eb⟩:=Pick_T hp hG hi
   rw [ei] at hj2 ⊢
   rw [eb] at hj2
   have hbt:b = true:=Option.some.inj hj2
   have hn:=hb hbt
   obtain ⟨m1,m2⟩:=hcm i hi
   obtain ⟨t,b2,h2,e2⟩:=hG.early hp hi m1
   simp only [some_bind',m2,Option.map_some,e2]
   cases b2 with
   | false => exact ⟨none,rfl,fun y e => by cases e⟩
   | true =>
    simp only [if_true,hG.with hi hn,Option.map_some,some_bind']
    exact serL_T hp h hcm ho k _ _ (hG.put hi hn (h2 rfl).1 m1 rfl)
theorem Serial_T (hp:Sm_Project 1099511627776 p) (h:projB p = true) {low:Bool} (hcm:∀ (a:Nat) (haa:a < p.2.1.length),inB (cm a) 0 (subZ .i64 (lenI p.2.1[a].2.2.1) 1) = true /\ ∀ u,impl_ChooseMode (p,(a:Int),low,u) () = some (cm a,())) {o:List Int} (ho:InN p.2.1.length o) :
  ∃ (z:D_Schedule) (ok:Bool),(ok = true -> okV p z = true /\ getI z.2.1 0 = some (cm 0)) /\ ∀ u,impl_SerialSchedule (p,o,low,u) () = some ((z,ok,()),()):=by
 have h6:=(proj_acts h).2
 obtain ⟨r,er,hr⟩:=serL_T hp h hcm ho p.2.1.length _ _ (PlG.nil h cm)
 have un:∀ u,impl_SerialSchedule (p,o,low,u) () = ((impl_ProjectOk (p,()) ()).map (·.1)).bind fun ok => if ok = true then ((impl_NewPlan (p,()) ()).map (·.1)).bind fun s => if 1000 <= p.2.1.length then none else
   (serL (fun d => (slices_IndexFunc_int_int (o,(fun l => (impl_SerialSchedule_1 l (p,d,())).map (·.1)),()) ()).map (·.1)) o (fun a => (impl_ChooseMode (p,a,low,()) ()).map (·.1)) (fun d a m => (impl_PlanEarliest (p,d,a,m,(0:Int),()) ()).map fun r => (r.1.1,r.1.2.1)) (fun d a m t => (impl_Plan_with (d,a,m,t,()) ()).map (·.1)) p.2.1.length s).bind fun r =>
    match r with
    | none => some ((([],[],()),false,()),())
    | some y => (impl_finished (p,y,()) ()).map fun r => (r.1,())
  else some ((([],[],()),false,()),()):=fun u => rfl
 cases r with
 | none =>
  refine ⟨([],[],()),false,(fun e => by cases e),fun u => ?_⟩
  rw [un,ProjectOk_impl _ _ hp,h,NewPlan_T hp h]
  simp only [Option.map_some,some_bind',if_true]
  rw [if_neg (by omega),er]
  rfl
 | some y =>
  obtain ⟨s',d',rfl,hG⟩:=hr y rfl
  obtain ⟨z,ok,hz,ez⟩:=hG.done hp
  refine ⟨z,ok,hz,fun u => ?_⟩
  rw [un,ProjectOk_impl _ _ hp,h,NewPlan_T hp h]
  simp only [Option.map_some,some_bind',if_true]
  rw [if_neg (by omega),er]
  simp only [some_bind',ez,Option.map_some]
theorem Par_T (hp:Sm_Project 1099511627776 p) (h:projB p = true) {low:Bool} (hcm:∀ (a:Nat) (haa:a < p.2.1.length),inB (cm a) 0 (subZ .i64 (lenI p.2.1[a].2.2.1) 1) = true /\ ∀ u,impl_ChooseMode (p,(a:Int),low,u) () = some (cm a,())) {o:List Int} (ho:InN p.2.1.length o) :
  ∃ (z:D_Schedule) (ok:Bool),(ok = true -> okV p z = true) /\ ∀ u,impl_ParallelSchedule (p,o,low,u) () = some ((z,ok,()),()):=by
 have h6:=(proj_acts h).2
 have hl:=ho.1
 have hdead:1 <= p.1 /\ p.1 <= 60:=by
  have h0:=h
  unfold projB at h0
  simp only [Bool.and_eq_true] at h0
  exact inB_iff.1 h0.1.1.1.1.1.1.1.1
 obtain ⟨zz,hzz⟩:∃ zz:D_Schedule,zz = ([],[],()):=⟨_,rfl⟩
 have inner:∀ (t:Nat) (x:D_Plan),(∃ s d,x = (s,d,()) /\ PlG p cm s d) -> ∃ x':D_Plan,(∃ s d,x' = (s,d,()) /\ PlG p cm s d) /\ ∀ A:Type,loopN (A:=A) big impl_ParallelSchedule_L0 (0,(o.length:Int),o,(t:Int),(t:Int),p.1,o,low,p,x,zz,()) = some (.exit (Sum.inl (false,(o.length:Int),(o.length:Int),o,(t:Int),(t:Int),p.1,o,low,p,x',zz,()))):=by
  intro t x hx
  rcases one_loop (F:=impl_ParallelSchedule_L0) (fun k (x:D_Plan) => ((k:Int),(o.length:Int),o,(t:Int),(t:Int),p.1,o,low,p,x,zz,())) o.length (fun k x => ∃ s d,x = (s,d,()) /\ PlG p cm s d)
   (fun b => ∃ x':D_Plan,(∃ s d,x' = (s,d,()) /\ PlG p cm s d) /\ b = Sum.inl (false,(o.length:Int),(o.length:Int),o,(t:Int),(t:Int),p.1,o,low,p,x',zz,())) (fun _ => False) (by omega)
   (fun k x hk hx => by
    obtain ⟨s,d,rfl,hG⟩:=hx
    by_cases hk':k < o.length
    ·obtain ⟨i,ei,hi⟩:=ho.2 _ (List.getElem_mem hk')
     have g:getI o (k:Int) = some (i:Int):=by rw [getI_lt hk',ei]
     obtain ⟨m1,m2⟩:=hcm i hi
     have hI:=inB_atP hp.2.1.1 hi
     have hd:=hG.len
     obtain ⟨b,eb⟩:=Ready_T hp h (show d.length <= 1099511627776 by omega) (i:Int) ()
     obtain ⟨b2,h2,e2⟩:=hG.fits hp hi m1 (t:Int)
     have hb:o.length <= 1099511627776:=by omega
     cases b with
     | false =>
      refine .inl ⟨(s,d,()),hk',?_,s,d,rfl,hG⟩
      unfold impl_ParallelSchedule_L0
      simp only [lt_yes hk',if_true,g,some_bind',m2,hasActivity_eq,hI,eb,Bool.false_eq_true,if_false,idxN hk' (Nat.le_refl _) hb]
     | true =>
      cases b2 with
      | false =>
       refine .inl ⟨(s,d,()),hk',?_,s,d,rfl,hG⟩
       unfold impl_ParallelSchedule_L0
       simp only [lt_yes hk',if_true,g,some_bind',m2,hasActivity_eq,hI,eb,e2,Bool.false_eq_true,if_false,idxN hk' (Nat.le_refl _) hb]
      | true =>
       obtain ⟨ht,hn⟩:=h2 rfl
       refine .inl ⟨(putS s (i:Int) (cm i) (t:Int),insV (i:Int) d,()),hk',?_,_,_,rfl,hG.put hi hn ht m1 rfl⟩
       unfold impl_ParallelSchedule_L0
       simp only [lt_yes hk',if_true,g,some_bind',m2,hasActivity_eq,hI,eb,e2,hG.with hi hn,idxN hk' (Nat.le_refl _) hb]
    ·obtain rfl:k = o.length:=by omega
     refine .inr (.inl ⟨_,?_,(s,d,()),⟨s,d,rfl,hG⟩,rfl⟩)
     unfold impl_ParallelSchedule_L0
     simp only [lt_no,Bool.false_eq_true,if_false])
   (a:=x) rfl hx with ⟨b,e,x',hx',rfl⟩ | ⟨c,-,hc⟩
  ·exact ⟨x',hx',e⟩
  ·exact absurd hc id
 have outer:∃ x':D_Plan,(∃ s d,x' = (s,d,()) /\ PlG p cm s d) /\ ∀ A:Type,loopN (A:=A) big impl_ParallelSchedule_L1 (0,p.1,o,low,p,((List.replicate p.2.1.length 0,(List.replicate p.2.1.length 0,())),([],())),zz,()) = some (.exit (Sum.inl (false,(p.1.toNat:Int),p.1,o,low,p,x',zz,()))):=by
  rcases one_loop (F:=impl_ParallelSchedule_L1) (fun t (x:D_Plan) => ((t:Int),p.1,o,low,p,x,zz,())) p.1.toNat (fun k x => ∃ s d,x = (s,d,()) /\ PlG p cm s d)
   (fun b => ∃ x':D_Plan,(∃ s d,x' = (s,d,()) /\ PlG p cm s d) /\ b = Sum.inl (false,(p.1.toNat:Int),p.1,o,low,p,x',zz,())) (fun _ => False) (by omega)
   (fun t x ht hx => by
    by_cases ht':t < p.1.toNat
    ·obtain ⟨x',hx',e⟩:=inner t x hx
     have h1:ltZ (t:Int) p.1 = true:=by rw [ltZ_iff]; omega
     have hadd:addZ .i64 (t:Int) 1 = ((t + 1:Nat):Int):=by rw [addZ64 (by omega) (by omega)]; omega
     refine .inl ⟨x',ht',?_,hx'⟩
     unfold impl_ParallelSchedule_L1
     simp only [h1,if_true,lenI_eq,e,some_bind',hadd]
    ·obtain rfl:t = p.1.toNat:=by omega
     have h1:ltZ (p.1.toNat:Int) p.1 = false:=by rw [Bool.eq_false_iff,Ne,ltZ_iff]; omega
     refine .inr (.inl ⟨_,?_,x,hx,rfl⟩)
     unfold impl_ParallelSchedule_L1
     simp only [h1,Bool.false_eq_true,if_false])
   (a:=((List.replicate p.2.1.length 0,(List.replicate p.2.1.length 0,())),([],()))) rfl ⟨_,_,rfl,PlG.nil h cm⟩ with ⟨b,e,x',hx',rfl⟩ | ⟨c,-,hc⟩
  ·exact ⟨x',hx',e⟩
  ·exact absurd hc id
 obtain ⟨x',⟨s',d',rfl,hG⟩,e⟩:=outer
 obtain ⟨z,ok,hz,ez⟩:=hG.done hp
 refine ⟨z,ok,fun e => (hz e).1,fun u => ?_⟩
 rw [hzz] at e
 unfold impl_ParallelSchedule
 simp only [ProjectOk_impl _ _ hp,h,some_bind',notB_true,Bool.false_eq_true,if_false,NewPlan_T hp h,e,ez]
theorem perm3 {o:List Int} (h:o.Perm [0,1,2]):o = [0,1,2] \/ o = [0,2,1] \/ o = [1,0,2] \/ o = [1,2,0] \/ o = [2,0,1] \/ o = [2,1,0]:=by
 have hl:=h.length_eq
 match o,hl with
 | [a,b,c],_ =>
  have hn:[a,b,c].Nodup:=h.nodup_iff.2 (by decide)
  have ha:a ∈ ([0,1,2]:List Int):=h.mem_iff.1 (by simp)
  have hb:b ∈ ([0,1,2]:List Int):=h.mem_iff.1 (by simp)
  have hc:c ∈ ([0,1,2]:List Int):=h.mem_iff.1 (by simp)
  simp only [List.mem_cons,List.not_mem_nil,or_false] at ha hb hc
  rcases ha with rfl | rfl | rfl <;> rcases hb with rfl | rfl | rfl <;> rcases hc with rfl | rfl | rfl <;> first | exact absurd hn (by decide) | decide
theorem perm2 {o:List Int} (h:o.Perm [0,1]):o = [0,1] \/ o = [1,0]:=by
 have hl:=h.length_eq
 match o,hl with
 | [a,b],_ =>
  have hn:[a,b].Nodup:=h.nodup_iff.2 (by decide)
  have ha:a ∈ ([0,1]:List Int):=h.mem_iff.1 (by simp)
  have hb:b ∈ ([0,1]:List Int):=h.mem_iff.1 (by simp)
  simp only [List.mem_cons,List.not_mem_nil,or_false] at ha hb
  rcases ha with rfl | rfl <;> rcases hb with rfl | rfl <;> first | exact absurd hn (by decide) | decide
theorem so_0 (u:Unit):impl_SetOf ([],u) () = some (iotaI 0,()):=by kernel_rfl
theorem so_1 (u:Unit):impl_SetOf ([0],u) () = some (iotaI 1,()):=by kernel_rfl
theorem so_2 (u:Unit):impl_SetOf ([0,1],u) () = some (iotaI 2,()):=by kernel_rfl
theorem so_3 (u:Unit):impl_SetOf ([1,0],u) () = some (iotaI 2,()):=by kernel_rfl
theorem so_4 (u:Unit):impl_SetOf ([0,1,2],u) () = some (iotaI 3,()):=by kernel_rfl
theorem so_5 (u:Unit):impl_SetOf ([0,2,1],u) () = some (iotaI 3,()):=by kernel_rfl
theorem so_6 (u:Unit):impl_SetOf ([1,0,2],u) () = some (iotaI 3,()):=by kernel_rfl
theorem so_7 (u:Unit):impl_SetOf ([1,2,0],u) () = some (iotaI 3,()):=by kernel_rfl
theorem so_8 (u:Unit):impl_SetOf ([2,0,1],u) () = some (iotaI 3,()):=by kernel_rfl
theorem so_9 (u:Unit):impl_SetOf ([2,1,0],u) () = some (iotaI 3,()):=by kernel_rfl
theorem se_0 (u:Unit):impl_SetEqual (iotaI 0,iotaI 0,u) () = some (true,()):=by kernel_rfl
theorem se_1 (u:Unit):impl_SetEqual (iotaI 1,iotaI 1,u) () = some (true,()):=by kernel_rfl
theorem se_2 (u:Unit):impl_SetEqual (iotaI 2,iotaI 2,u) () = some (true,()):=by kernel_rfl
theorem se_3 (u:Unit):impl_SetEqual (iotaI 3,iotaI 3,u) () = some (true,()):=by kernel_rfl
theorem SetOf_perm {o:List Int} {n:Nat} (hn:n <= 3) (h:o.Perm (iotaI n)) (u:Unit):impl_SetOf (o,u) () = some (iotaI n,()):=by
 match n,hn,h with
 | 0,_,h =>
  have:o = []:=h.eq_nil
  subst this
  exact so_0 u
 | 1,_,h =>
  have:o = [0]:=List.perm_singleton.1 h
  subst this
  exact so_1 u
 | 2,_,h =>
  rcases perm2 h with rfl | rfl
  ·exact so_2 u
  ·exact so_3 u
 | 3,_,h =>
  rcases perm3 h with rfl | rfl | rfl | rfl | rfl | rfl
  ·exact so_4 u
  ·exact so_5 u
  ·exact so_6 u
  ·exact so_7 u
  ·exact so_8 u
  ·exact so_9 u
theorem SetEq_self {n:Nat} (hn:n <= 3) (u:Unit):impl_SetEqual (iotaI n,iotaI n,u) () = some (true,()):=by
 match n,hn with
 | 0,_ => exact se_0 u
 | 1,_ => exact se_1 u
 | 2,_ => exact se_2 u
 | 3,_ => exact se_3 u
theorem name_T (i:Nat) (hi:i < 4):∃ nm:List UInt8,eqS nm [] = false /\ ∀ u,impl_PriorityName (((i + 1:Nat):Int),u) () = some (nm,()):=by
 match i,hi with
 | 0,_ => exact ⟨_,rfl,fun u => rfl⟩
 | 1,_ => exact ⟨_,rfl,fun u => rfl⟩
 | 2,_ => exact ⟨_,rfl,fun u => rfl⟩
 | 3,_ => exact ⟨_,rfl,fun u => rfl⟩
/-- one of the two ways to choose modes -/
theorem way_T (hp:Sm_Project 1099511627776 p) (h:projB p = true) {o:List Int} (ho:InN p.2.1.length o) (rule:Int) (k:Nat) (hk:k < 2):laws_FnPrio_L0 ((k:Int),2,[false,true],o,rule,p,()) = some (.norm (((k + 1:Nat):Int),2,[false,true],o,rule,p,())):=by
 have h1:=(proj_acts h).1
 have hlt:ltZ (k:Int) 2 = true:=by rw [ltZ_iff]; omega
 have hadd:addZ .i64 (k:Int) 1 = ((k + 1:Nat):Int):=by rw [addZ64 (by omega) (by omega)]; omega
 obtain ⟨low,gl⟩:∃ low:Bool,getI [false,true] (k:Int) = some low:=⟨_,getI_lt (show k < [false,true].length from hk)⟩
 obtain ⟨cm,hcm⟩:=Cm_T hp h low
 have hc0:∀ u,impl_ChooseMode (p,0,low,u) () = some (cm 0,()):=(hcm 0 (by omega)).2
 obtain ⟨z,ok,hz,ez⟩:=Serial_T hp h hcm ho
 obtain ⟨x,fine,hx,ex⟩:=Par_T hp h hcm ho
 have q0:eqZ (cm 0) (cm 0) = true:=eqZ_self _
 unfold laws_FnPrio_L0
 cases ok with
 | false =>
  cases fine with
  | false => simp only [hlt,if_true,gl,some_bind',ez,ex,Bool.false_eq_true,if_false,hadd]
  | true => simp only [hlt,if_true,gl,some_bind',ez,ex,Bool.false_eq_true,if_false,ScheduleOk_impl _ _ _ hp,hx rfl,notB_true,hadd]
 | true =>
  obtain ⟨k1,k2⟩:=hz rfl
  cases fine with
  | false => simp only [hlt,if_true,gl,some_bind',ez,ex,Bool.false_eq_true,if_false,ScheduleOk_impl _ _ _ hp,k1,k2,notB_true,hc0,q0,hadd]
  | true => simp only [hlt,if_true,gl,some_bind',ez,ex,Bool.false_eq_true,if_false,ScheduleOk_impl _ _ _ hp,k1,k2,hx rfl,notB_true,hc0,q0,hadd]
theorem ways_T (hp:Sm_Project 1099511627776 p) (h:projB p = true) {o:List Int} (ho:InN p.2.1.length o) (rule:Int) (A:Type):loopN (A:=A) big laws_FnPrio_L0 (0,2,[false,true],o,rule,p,()) = some (.exit (Sum.inl (false,2,2,[false,true],o,rule,p,()))):=by
 rcases one_loop (F:=laws_FnPrio_L0) (fun k (_:Unit) => ((k:Int),2,[false,true],o,rule,p,())) 2 (fun _ _ => True) (fun b => b = Sum.inl (false,2,2,[false,true],o,rule,p,())) (fun _ => False) (by omega)
  (fun k _ hk _ => by
   by_cases hk':k < 2
   ·exact .inl ⟨(),hk',way_T hp h ho rule k hk',trivial⟩
   ·obtain rfl:k = 2:=by omega
    exact .inr (.inl ⟨_,rfl,rfl⟩))
  (a:=()) (s:=((0:Int),2,[false,true],o,rule,p,())) rfl trivial with ⟨b,e,rfl⟩ | ⟨c,-,hc⟩
 ·exact e A
 ·exact absurd hc id
theorem plain_FnPrio (b:List Int) (u:Unit):laws_FnPrio (b,u) () = some (true,()):=by
 rcases tf (ltZ 1048576 (lenI b)) with hb | hb
 rotate_left
 ·unfold laws_FnPrio
  simp only [hb,if_true]
 have hbl:b.length <= 1048576:=by
  rw [Bool.eq_false_iff,Ne,ltZ_iff,lenI_eq] at hb
  omega
 obtain ⟨p,hP,eP⟩:=MakeProject_eq b hbl
 have hp:Sm_Project 1099511627776 p:=hP.sm (by omega) (by omega)
 have h:projB p = true:=hP.ok (by omega)
 have h3:=hP.al.2
 have h1:=(proj_acts h).1
 obtain ⟨c,hc⟩:=Pos_T hp h
 have e2:lenI (false :: (true :: [])) = 2:=rfl
 have l1:∀ A:Type,loopN (A:=A) big laws_FnPrio_L1 (1,p,()) = some (.exit (Sum.inl (false,5,p,()))):=by
  rcases one_loop (F:=laws_FnPrio_L1) (fun i (_:Unit) => (((i + 1:Nat):Int),p,())) 4 (fun _ _ => True) (fun b => b = Sum.inl (false,5,p,())) (fun _ => False) (by omega)
   (fun i _ hi _ => by
    by_cases hi':i < 4
    ·have hle:leZ ((i + 1:Nat):Int) 4 = true:=by rw [leZ_iff]; omega
     have hadd:addZ .i64 ((i + 1:Nat):Int) 1 = ((i + 1 + 1:Nat):Int):=by rw [addZ64 (by omega) (by omega)]; omega
     obtain ⟨o,ho1,ho2,eo⟩:=Ord_T hp h hc (rule:=((i + 1:Nat):Int)) (by omega)
     obtain ⟨nm,hnm,enm⟩:=name_T i hi'
     refine .inl ⟨(),hi',?_,trivial⟩
     by_cases hcc:c = []
     ·have hperm:=ho2 hcc
      have hlen:o.length = p.2.1.length:=by have:=hperm.length_eq; simpa [iotaI] using this
      have hIn:InN p.2.1.length o:=⟨by omega,fun x hx => by
       obtain ⟨j,hj,rfl⟩:=List.mem_map.1 (hperm.mem_iff.1 hx)
       exact ⟨j,rfl,List.mem_range.1 hj⟩⟩
      have hw:=fun A:Type => ways_T hp h hIn ((i + 1:Nat):Int) A
      have q1:ltZ 0 (o.length:Int) = true:=by rw [ltZ_iff]; omega
      have q2:eqZ (o.length:Int) 0 = false:=by rw [Bool.eq_false_iff,Ne,eqZ_iff]; omega
      have q3:ltZ 0 (c.length:Int) = false:=by rw [hcc]; rfl
      have q4:notB (eqB false false) = false:=rfl
      unfold laws_FnPrio_L1
      simp only [hle,if_true,eo,some_bind',enm,hnm,Bool.false_eq_true,if_false,e2,lenI_eq o,lenI_eq p.2.1,lenI_eq c,q1,q2,q3,q4,SetOf_perm (by omega) hperm,intRange_i,intRange_s _ _ (show p.2.1.length <= 200 by omega),SetEq_self (show p.2.1.length <= 3 by omega),notB_true,hc,hw,hadd]
     ·have hon:=ho1 hcc
      subst hon
      have hIn:InN p.2.1.length []:=⟨by simp,fun x hx => by cases hx⟩
      have hw:=fun A:Type => ways_T hp h hIn ((i + 1:Nat):Int) A
      have q1:ltZ 0 (lenI ([]:List Int)) = false:=rfl
      have q2:eqZ (lenI ([]:List Int)) 0 = true:=rfl
      have q3:ltZ 0 (c.length:Int) = true:=by
       have:c.length ≠ 0:=fun e => hcc (List.length_eq_zero_iff.1 e)
       rw [ltZ_iff]; omega
      have q4:notB (eqB true true) = false:=rfl
      unfold laws_FnPrio_L1
      simp only [hle,if_true,eo,some_bind',enm,hnm,Bool.false_eq_true,if_false,e2,lenI_eq c,q1,q2,q3,q4,hc,hw,hadd]
    ·obtain rfl:i = 4:=by omega
     exact .inr (.inl ⟨_,rfl,rfl⟩))
   (a:=()) (s:=((1:Int),p,())) rfl trivial with ⟨b,e,rfl⟩ | ⟨c,-,hc⟩
  ·exact e
  ·exact absurd hc id
 obtain ⟨cm,hcm⟩:=Cm_T hp h false
 have hc0:∀ u,impl_ChooseMode (p,0,false,u) () = some (cm 0,()):=(hcm 0 (by omega)).2
 have hm:=(hcm 0 (by omega)).1
 have hg:getI p.2.1 0 = some p.2.1[0]:=getI_lt (show 0 < p.2.1.length by omega)
 have hml:=modes_le h (show 0 < p.2.1.length by omega)
 have q1:ltZ (cm 0) (lenI p.2.1[0].2.2.1) = true:=by
  rw [inB_iff,lenI_eq,subZ64 (by omega) (by omega)] at hm
  rw [ltZ_iff,lenI_eq]
  omega
 have q2:eqZ (lenI ([]:List Int)) 0 = true:=rfl
 unfold laws_FnPrio
 simp only [hb,Bool.false_eq_true,if_false,eP,some_bind',l1,hc0,hg,q1,if_true,Ord_no hp h hc,q2,ProjectOk_impl _ _ hp,h]
theorem L_FnPrio (x:Ty.dens H_laws_FnPrio.ps) (h:Ty.fits H_laws_FnPrio.ps x):laws_FnPrio x () = some (true,()):=by
 obtain ⟨b,u⟩:=x
 exact plain_FnPrio b u
end Go.Proofs.YteggmejnpcfalaaGreat
