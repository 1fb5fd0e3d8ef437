/-
  Plain laws: numbers in a row, lists that hold a number, sets, domains (several small texts in one). Condition: no list is longer than 2 to the 40.
-/
import Derived.Test.YteggmejnpcfalaaGreatl4LProjM
import Derived.Test.YteggmejnpcfalaaGreatl4LForm
namespace Go.Proofs.YteggmejnpcfalaaGreat
open Go.Abs
set_option linter.unusedVariables false
set_option linter.unusedSimpArgs false
theorem proj_actsP {p:D_Project} (h:projB p = true):1 <= p.2.1.length /\ p.2.1.length <= 6:=by
 unfold projB at h
 simp only [Bool.and_eq_true] at h
 have:=inB_iff.1 h.1.1.1.1.1.1.1.2
 rw [lenI_eq] at this
 omega
theorem inB_atP {α:Type} {l:List α} (hl:l.length <= 1099511627776) {j:Nat} (hj:j < l.length):inB (j:Int) 0 (subZ .i64 (lenI l) 1) = true:=by
 rw [lenI_sub _ hl,inB_iff]; omega
theorem setup_atP {p:D_Project} (h:projB p = true) {j b c:Nat} (hj:j < p.2.2.2.1.length) (h0:0 < p.2.2.2.1[j].2.1.length) (hb:b < p.2.1.length) (hc:c < p.2.1.length) :
  ∃ row n,getI p.2.2.2.1[j].2.1 p.2.1[b].2.1 = some row /\ getI row p.2.1[c].2.1 = some n /\ 0 <= n /\ n <= 12:=by
 unfold projB at h
 simp only [Bool.and_eq_true] at h
 obtain ⟨⟨⟨⟨-,ha⟩,hr⟩,-⟩,-⟩:=h
 have fam:∀ {i:Nat} (hi:i < p.2.1.length),0 <= p.2.1[i].2.1 /\ p.2.1[i].2.1 <= 3:=fun {i} hi => by
  have:=List.all_eq_true.1 ha i (by simpa using hi)
  unfold actI at this
  rw [List.getElem?_eq_getElem hi] at this
  simp only [Bool.and_eq_true] at this
  have h2:=this.1
  unfold actB at h2
  simp only [Bool.and_eq_true] at h2
  exact inB_iff.1 h2.2.1.2
 have h1:=List.all_eq_true.1 hr _ (List.getElem_mem hj)
 unfold resrB at h1
 simp only [Bool.and_eq_true,Bool.or_eq_true,eqZ_dec,decide_eq_true_eq] at h1
 have h4:p.2.2.2.1[j].2.1.length = 4:=by
  rcases h1.2.2 with h | h <;> omega
 obtain ⟨f1,f2⟩:=fam hb
 obtain ⟨f3,f4⟩:=fam hc
 have e1:p.2.1[b].2.1 = ((p.2.1[b].2.1.toNat:Nat):Int):=by omega
 have e2:p.2.1[c].2.1 = ((p.2.1[c].2.1.toNat:Nat):Int):=by omega
 have l1:p.2.1[b].2.1.toNat < p.2.2.2.1[j].2.1.length:=by omega
 have hrow:=List.all_eq_true.1 h1.1 _ (List.getElem_mem l1)
 unfold rowB at hrow
 simp only [Bool.and_eq_true,eqZ_dec,decide_eq_true_eq] at hrow
 have l2:p.2.1[c].2.1.toNat < p.2.2.2.1[j].2.1[p.2.1[b].2.1.toNat].length:=by omega
 have hn:=inB_iff.1 (List.all_eq_true.1 hrow.2 _ (List.getElem_mem l2))
 exact ⟨p.2.2.2.1[j].2.1[p.2.1[b].2.1.toNat],p.2.2.2.1[j].2.1[p.2.1[b].2.1.toNat][p.2.1[c].2.1.toNat],(congrArg (getI _) e1).trans (getI_lt l1),(congrArg (getI _) e2).trans (getI_lt l2),hn.1,hn.2⟩
/-- what a link leaves -/
theorem link_atP {p:D_Project} (hp:Sm_Project 1099511627776 p) (h:projB p = true) {k:Nat} (hk:k < p.2.2.1.length):∃ f t:Nat,p.2.2.1[k].1 = (f:Int) /\ p.2.2.1[k].2.1 = (t:Int) /\ f < p.2.1.length /\ t < p.2.1.length /\ f ≠ t /\ -60 <= p.2.2.1[k].2.2.2.1 /\ p.2.2.1[k].2.2.2.1 <= 60:=by
 unfold projB at h
 simp only [Bool.and_eq_true] at h
 have h1:=List.all_eq_true.1 h.2 _ (List.getElem_mem hk)
 unfold linkB at h1
 simp only [Bool.and_eq_true] at h1
 obtain ⟨f,e1,f1⟩:=inB_place hp.2.1.1 h1.1.1.1
 obtain ⟨t,e2,t1⟩:=inB_place hp.2.1.1 h1.1.1.2
 have h3:=h1.1.2
 rw [notB_not,eqZ_dec,e1,e2] at h3
 have h4:=inB_iff.1 h1.2
 refine ⟨f,t,e1,e2,f1,t1,fun e => ?_,h4.1,h4.2⟩
 subst e
 simp at h3
theorem hasResource_eqP (p:D_Project) (a:Int) (u:Unit):impl_Project_hasResource (p,a,u) () = some (inB a 0 (subZ .i64 (lenI p.2.2.2.1) 1),()):=by
 unfold impl_Project_hasResource
 simp only [within_eq,some_bind']
theorem IsMachine_impl_eqP:impl_IsMachine = spec_IsMachine:=by
 funext x u
 obtain ⟨p,a,w⟩:=x
 unfold impl_IsMachine spec_IsMachine
 simp only [hasResource_eqP,l01In_eq]
/-- is the resource a machine? -/
def machBP (p:D_Project) (a:Int):Bool:=if inB a 0 (subZ .i64 (lenI p.2.2.2.1) 1) = true then (match getI p.2.2.2.1 a with | some r => ltZ 0 (lenI r.2.1) | none => false) else false
theorem IsMachine_specP (p:D_Project) (a:Int) (u:Unit) (hp:Sm_Project 1099511627776 p):spec_IsMachine (p,a,u) () = some (machBP p a,()):=by
 unfold spec_IsMachine machBP
 simp only [l01In_eq,some_bind']
 rcases tf (inB a 0 (subZ .i64 (lenI p.2.2.2.1) 1)) with h | h
 ·simp [h]
 ·obtain ⟨j,rfl,hj⟩:=inB_place hp.2.2.2.1.1 h
  simp [h,getI_lt hj]
theorem machB_atP {p:D_Project} (hp:Sm_Project 1099511627776 p) {j:Nat} (hj:j < p.2.2.2.1.length):machBP p (j:Int) = ltZ 0 (lenI p.2.2.2.1[j].2.1):=by
 have h:inB (j:Int) 0 (subZ .i64 (lenI p.2.2.2.1) 1) = true:=by
  rw [lenI_sub _ hp.2.2.2.1.1,inB_iff]; omega
 unfold machBP
 rw [if_pos h,getI_lt hj]
theorem proj_sizesP {p:D_Project} (h:projB p = true):p.2.2.2.1.length <= 3 /\ p.2.2.2.2.1.length <= 2 /\ p.2.2.1.length <= 12:=by
 unfold projB at h
 simp only [Bool.and_eq_true] at h
 obtain ⟨⟨⟨⟨⟨⟨⟨⟨-,-⟩,h1⟩,h2⟩,h3⟩,-⟩,-⟩,-⟩,-⟩:=h
 rw [notB_not,Bool.not_eq_true',Bool.eq_false_iff,Ne,ltZ_iff,lenI_eq] at h1 h2 h3
 omega
theorem SetupTime_impl_atP {p:D_Project} (hp:Sm_Project 1099511627776 p) (h:projB p = true) {j b c:Nat} {row:List Int} {n:Int} (u:Unit) (hj:j < p.2.2.2.1.length) (h0:0 < p.2.2.2.1[j].2.1.length) (hb:b < p.2.1.length) (hc:c < p.2.1.length)
  (h1:getI p.2.2.2.1[j].2.1 p.2.1[b].2.1 = some row) (h2:getI row p.2.1[c].2.1 = some n):impl_SetupTime (p,(j:Int),(b:Int),(c:Int),u) () = some (n,()):=by
 have hM:machBP p (j:Int) = true:=by
  rw [machB_atP hp hj,ltZ_iff,lenI_eq]; omega
 unfold impl_SetupTime
 simp only [IsMachine_impl_eqP,IsMachine_specP _ _ _ hp,hM,notB_true,Bool.false_eq_true,if_false,ProjectOk_impl _ _ hp,h,hasActivity_eq,inB_atP hp.2.1.1 hb,inB_atP hp.2.1.1 hc,some_bind',getI_lt hj,getI_lt hb,getI_lt hc,h1,h2]
open Go.Abs
set_option linter.unusedVariables false
set_option linter.unusedSimpArgs false
def runBP (p:D_Project) (s:D_Schedule) (t a:Int):Bool:=match getI s.1 a,spec_l09End (p,s,a,()) () with
 | some x,some e => leZ x t && ltZ t e.1
 | _,_ => false
/-- what an activity uses -/
def useOfP (p:D_Project) (s:D_Schedule) (res a:Int):Int:=match spec_l09Mode (p,s,a,()) () with
 | some m => (getI m.1.2.1 res).getD 0
 | none => 0
theorem mode_eqP {p:D_Project} {s:D_Schedule} {i m:Nat} {md:D_Mode} (u:Unit) (hi:i < p.2.1.length) (h2:getI s.2.1 (i:Int) = some (m:Int)) (h3:getI p.2.1[i].2.2.1 (m:Int) = some md) :
  spec_l09Mode (p,s,(i:Int),u) () = some (md,()):=by
 unfold spec_l09Mode
 simp only [getI_lt hi,h2,h3,some_bind']
/-- what is known of an activity in a schedule of the right form -/
theorem run_atP {p:D_Project} {s:D_Schedule} (hp:Sm_Project 1099511627776 p) (h:formB p s = true) {i:Nat} (hi:i < p.2.1.length) :
  ∃ (x e:Int) (md:D_Mode),getI s.1 (i:Int) = some x /\ (∀ u,spec_l09End (p,s,(i:Int),u) () = some (e,())) /\ (∀ u,spec_l09Mode (p,s,(i:Int),u) () = some (md,())) /\ e = addZ .i64 x md.1 /\ 0 <= x /\ x <= 60 /\ 1 <= md.1 /\ md.1 <= 12 /\
   (∀ t,runBP p s t (i:Int) = (leZ x t && ltZ t e)) /\ ∀ j:Nat,j < p.2.2.2.1.length -> getI md.2.1 (j:Int) = some (useOfP p s (j:Int) (i:Int)):=by
 obtain ⟨t,m,md,g1,g2,g3,hm,h0,h6,hmb,-⟩:=form_at hp h hi
 have ge:=fun u => end_eq (p:=p) (s:=s) u hi g1 g2 g3
 have gm:=fun u => mode_eqP (p:=p) (s:=s) u hi g2 g3
 unfold modeB at hmb
 simp only [Bool.and_eq_true] at hmb
 have hd:=inB_iff.1 hmb.1.1
 refine ⟨t,_,md,g1,ge,gm,rfl,h0,h6,hd.1,hd.2,fun t' => ?_,fun j hj => ?_⟩
 ·unfold runBP
  simp only [g1,ge]
 ·have hlen:=hmb.1.2.2
  rw [eqZ_dec,decide_eq_true_eq,lenI_eq] at hlen
  have hj':j < md.2.1.length:=by omega
  unfold useOfP
  simp only [gm,getI_lt hj',Option.getD_some]
/-- what an activity consumes -/
def consOfP (p:D_Project) (s:D_Schedule) (k a:Int):Int:=match spec_l09Mode (p,s,a,()) () with
 | some m => (getI m.1.2.2.1 k).getD 0
 | none => 0
theorem cons_atP {p:D_Project} {s:D_Schedule} (hp:Sm_Project 1099511627776 p) (h:formB p s = true) {i:Nat} (hi:i < p.2.1.length) {k:Nat} (hk:k < p.2.2.2.2.1.length) :
  ∃ md:D_Mode,(∀ u,spec_l09Mode (p,s,(i:Int),u) () = some (md,())) /\ getI md.2.2.1 (k:Int) = some (consOfP p s (k:Int) (i:Int)):=by
 obtain ⟨t,m,md,g1,g2,g3,hm,h0,h6,hmb,-⟩:=form_at hp h hi
 have gm:=fun u => mode_eqP (p:=p) (s:=s) u hi g2 g3
 unfold modeB at hmb
 simp only [Bool.and_eq_true] at hmb
 have hlen:=hmb.2.2
 rw [eqZ_dec,decide_eq_true_eq,lenI_eq] at hlen
 have hk':k < md.2.2.1.length:=by omega
 refine ⟨md,gm,?_⟩
 unfold consOfP
 simp only [gm,getI_lt hk',Option.getD_some]
theorem notB_ltZP (x y:Int):notB (ltZ x y) = leZ y x:=by
 rw [notB_not,Bool.eq_iff_iff,Bool.not_eq_true',Bool.eq_false_iff,Ne,ltZ_iff,leZ_iff]; omega
theorem linkHolds_failsP (p:D_Project) (s:D_Schedule) (k:Nat) (r3 r4:Int) (hp:Sm_Project 1099511627776 p) (h:formB p s = true) (hk:k < p.2.2.1.length):∃ b,(∀ u,spec_l10Fails (p,s,(1,(k:Int),r3,r4,()),u) () = some (b,())) /\ ∀ u,impl_Project_linkHolds (p,s,p.2.2.1[k],u) () = some (notB b,()):=by
 obtain ⟨f,t,ef,et,hf,ht,-⟩:=link_atP hp (proj_of_form h) hk
 obtain ⟨x,e,md,g1,ge,-⟩:=run_atP hp h hf
 obtain ⟨y,e',md',g1',ge',-⟩:=run_atP hp h ht
 have z:eqZ 1 1 = true:=rfl
 rcases tf p.2.2.1[k].2.2.1 with hb | hb
 ·refine ⟨ltZ y (addZ .i64 x p.2.2.1[k].2.2.2.1),fun u => ?_,fun u => ?_⟩
  ·unfold spec_l10Fails
   simp only [z,if_true,getI_lt hk,some_bind',ef,et,g1,g1',ge,hb,Bool.false_eq_true,if_false]
  ·unfold impl_Project_linkHolds
   simp only [end_impl,some_bind',ef,et,g1,g1',ge,hb,Bool.false_eq_true,if_false,notB_ltZP]
 ·refine ⟨ltZ y (addZ .i64 e p.2.2.1[k].2.2.2.1),fun u => ?_,fun u => ?_⟩
  ·unfold spec_l10Fails
   simp only [z,if_true,getI_lt hk,some_bind',ef,et,g1,g1',ge,hb]
  ·unfold impl_Project_linkHolds
   simp only [end_impl,some_bind',ef,et,g1,g1',ge,hb,if_true,notB_ltZP]
end Go.Proofs.YteggmejnpcfalaaGreat
