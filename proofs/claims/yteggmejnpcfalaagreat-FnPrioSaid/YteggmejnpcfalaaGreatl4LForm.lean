/-
  Plain laws: which schedules have the right form, in the program and in the reference; modes and ends. Condition: no list is longer than 2 to the 40.
-/
import Derived.Test.YteggmejnpcfalaaGreatl4LProjM
namespace Go.Proofs.YteggmejnpcfalaaGreat
open Go.Abs
set_option linter.unusedVariables false
set_option linter.unusedSimpArgs false
def formI (p:D_Project) (s:D_Schedule) (i:Nat):Bool:=match p.2.1[i]?,s.1[i]?,s.2.1[i]? with
 | some a,some t,some m => inB t 0 60 && inB m 0 (subZ .i64 (lenI a.2.2.1) 1)
 | _,_,_ => true
def formB (p:D_Project) (s:D_Schedule):Bool:=projB p && eqZ (lenI s.1) (lenI p.2.1) && eqZ (lenI s.2.1) (lenI p.2.1) && (List.range p.2.1.length).all (formI p s)
theorem len_of_eqZ {α β:Type} {x:List α} {y:List β} (h:eqZ (lenI x) (lenI y) = true):x.length = y.length:=by
 rw [eqZ_dec,decide_eq_true_eq] at h
 exact Int.ofNat.inj h
theorem ScheduleForm_spec (p:D_Project) (s:D_Schedule) (u:Unit) (h:Sm_Project 1099511627776 p):spec_ScheduleForm (p,s,u) () = some (formB p s,()):=by
 unfold spec_ScheduleForm formB
 simp only [ProjectOk_spec _ _ h,some_bind']
 cases projB p with
 | false => simp [notB]
 | true =>
 cases h1:eqZ (lenI s.1) (lenI p.2.1) with
 | false => simp [notB,h1]
 | true =>
 cases h2:eqZ (lenI s.2.1) (lenI p.2.1) with
 | false => simp [notB,h1,h2]
 | true =>
 have e1:=len_of_eqZ h1
 have e2:=len_of_eqZ h2
 have ha:=h.2.1.1
 have l0:=fun A:Type => allIS (A:=A) (F:=spec_ScheduleForm_L0) (fun i => ((i:Int),lenI p.2.1,p.2.1,s,())) (0,lenI p.2.1,p.2.1,s,()) p.2.1.length (formI p s) (Sum.inl (false,lenI p.2.1,lenI p.2.1,p.2.1,s,())) (false,()) rfl ha
  (fun i hi => by
   unfold spec_ScheduleForm_L0 formI
   have hi1:i < s.1.length:=by omega
   have hi2:i < s.2.1.length:=by omega
   rw [List.getElem?_eq_getElem hi,List.getElem?_eq_getElem hi1,List.getElem?_eq_getElem hi2]
   have hl:ltZ (i:Int) (lenI p.2.1) = true:=lt_yes hi
   simp only [hl,if_true,getI_lt hi,getI_lt hi1,getI_lt hi2,some_bind',l01In_eq,idxN hi ha (Nat.le_refl _)]
   rcases tf (inB s.1[i] 0 60) with hp | hp <;> rcases tf (inB s.2.1[i] 0 (subZ .i64 (lenI p.2.1[i].2.2.1) 1)) with hq | hq <;> simp [-Int.natCast_add,notB,hp,hq,getI_lt hi2,l01In_eq,idxN hi ha (Nat.le_refl _)])
  (by unfold spec_ScheduleForm_L0; simp only [lenI_eq,lt_no,Bool.false_eq_true,if_false])
 simp only [notB_true,Bool.false_eq_true,if_false,h1,h2,some_bind',l0]
 cases k0:(List.range p.2.1.length).all (formI p s) <;> simp
theorem ScheduleForm_impl (p:D_Project) (s:D_Schedule) (u:Unit) (h:Sm_Project 1099511627776 p):impl_ScheduleForm (p,s,u) () = some (formB p s,()):=by
 unfold impl_ScheduleForm formB
 simp only [ProjectOk_impl _ _ h,some_bind']
 cases projB p with
 | false => simp [notB]
 | true =>
 cases h1:eqZ (lenI s.1) (lenI p.2.1) with
 | false => simp [notB,h1]
 | true =>
 cases h2:eqZ (lenI s.2.1) (lenI p.2.1) with
 | false => simp [notB,h1,h2]
 | true =>
 have e1:=len_of_eqZ h1
 have e2:=len_of_eqZ h2
 have ha:=h.2.1.1
 have l0:=fun A:Type => allIS (A:=A) (F:=impl_ScheduleForm_L0) (fun i => ((i:Int),lenI p.2.1,s,p,())) (0,lenI p.2.1,s,p,()) p.2.1.length (formI p s) (Sum.inl (false,lenI p.2.1,lenI p.2.1,s,p,())) (false,()) rfl ha
  (fun i hi => by
   unfold impl_ScheduleForm_L0 formI
   have hi1:i < s.1.length:=by omega
   have hi2:i < s.2.1.length:=by omega
   rw [List.getElem?_eq_getElem hi,List.getElem?_eq_getElem hi1,List.getElem?_eq_getElem hi2]
   have hl:ltZ (i:Int) (lenI p.2.1) = true:=lt_yes hi
   simp only [hl,if_true,getI_lt hi,getI_lt hi1,getI_lt hi2,some_bind',isTime_eq,within_eq,idxN hi ha (Nat.le_refl _)]
   rcases tf (inB s.1[i] 0 60) with hp | hp <;> rcases tf (inB s.2.1[i] 0 (subZ .i64 (lenI p.2.1[i].2.2.1) 1)) with hq | hq <;> simp [-Int.natCast_add,notB,hp,hq,getI_lt hi,getI_lt hi2,within_eq,idxN hi ha (Nat.le_refl _)])
  (by unfold impl_ScheduleForm_L0; simp only [lenI_eq,lt_no,Bool.false_eq_true,if_false])
 simp only [notB_true,Bool.false_eq_true,if_false,h1,h2,some_bind',l0]
 cases k0:(List.range p.2.1.length).all (formI p s) <;> simp
/-- what a schedule of the right form has at a place -/
theorem form_at {p:D_Project} {s:D_Schedule} (hp:Sm_Project 1099511627776 p) (h:formB p s = true) {i:Nat} (hi:i < p.2.1.length) :
  ∃ (t:Int) (m:Nat) (md:D_Mode),getI s.1 (i:Int) = some t /\ getI s.2.1 (i:Int) = some (m:Int) /\ getI p.2.1[i].2.2.1 (m:Int) = some md /\ md ∈ p.2.1[i].2.2.1 /\ 0 <= t /\ t <= 60 /\ modeB md (lenI p.2.2.2.1) (lenI p.2.2.2.2.1) = true /\ actB p.2.1[i] (lenI p.2.2.2.1) (lenI p.2.2.2.2.1) = true:=by
 unfold formB at h
 simp only [Bool.and_eq_true] at h
 obtain ⟨⟨⟨h0,h1⟩,h2⟩,h3⟩:=h
 have e1:=len_of_eqZ h1
 have e2:=len_of_eqZ h2
 have hi1:i < s.1.length:=by omega
 have hi2:i < s.2.1.length:=by omega
 rw [List.all_eq_true] at h3
 have h4:=h3 i (by simpa using hi)
 unfold formI at h4
 rw [List.getElem?_eq_getElem hi,List.getElem?_eq_getElem hi1,List.getElem?_eq_getElem hi2] at h4
 simp only [Bool.and_eq_true] at h4
 obtain ⟨h5,h6⟩:=h4
 obtain ⟨m,hm,hml⟩:=inB_place (hp.2.1.2 _ (List.getElem_mem hi)).2.2.1.1 h6
 have h7:=inB_iff.1 h5
 have hact:actB p.2.1[i] (lenI p.2.2.2.1) (lenI p.2.2.2.2.1) = true:=by
  unfold projB at h0
  simp only [Bool.and_eq_true] at h0
  have:=h0.1.1.1.2
  rw [List.all_eq_true] at this
  have:=this i (by simpa using hi)
  unfold actI at this
  rw [List.getElem?_eq_getElem hi] at this
  simp only [Bool.and_eq_true] at this
  exact this.1
 refine ⟨_,m,p.2.1[i].2.2.1[m],getI_lt hi1,by rw [getI_lt hi2,hm],getI_lt hml,List.getElem_mem hml,h7.1,h7.2,?_,hact⟩
 unfold actB at hact
 simp only [Bool.and_eq_true] at hact
 exact List.all_eq_true.1 hact.1 _ (List.getElem_mem hml)
theorem proj_of_form {p:D_Project} {s:D_Schedule} (h:formB p s = true):projB p = true:=by
 unfold formB at h
 simp only [Bool.and_eq_true] at h
 exact h.1.1.1
theorem mode_impl:impl_Project_mode = spec_l09Mode:=rfl
theorem end_impl:impl_Project_end = spec_l09End:=rfl
theorem end_eq {p:D_Project} {s:D_Schedule} {i m:Nat} {t:Int} {md:D_Mode} (u:Unit) (hi:i < p.2.1.length) (h1:getI s.1 (i:Int) = some t) (h2:getI s.2.1 (i:Int) = some (m:Int)) (h3:getI p.2.1[i].2.2.1 (m:Int) = some md) :
  spec_l09End (p,s,(i:Int),u) () = some (addZ .i64 t md.1,()):=by
 unfold spec_l09End spec_l09Mode
 simp only [h1,getI_lt hi,h2,h3,some_bind']
end Go.Proofs.YteggmejnpcfalaaGreat
