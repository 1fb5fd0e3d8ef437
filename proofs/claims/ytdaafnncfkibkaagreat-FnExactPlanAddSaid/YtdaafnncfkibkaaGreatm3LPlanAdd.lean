/-
  Plain law: for all data within the bounds of the machine the law FnExactPlanAdd returns true.
-/
import Derived.Test.YtdaafnncfkibkaaGreatm3LPlanM
import Derived.Test.YtdaafnncfkibkaaGreatm3V
namespace Go.Proofs.YtdaafnncfkibkaaGreat
open Go.Abs
set_option linter.unusedVariables false
set_option linter.unusedSimpArgs false

theorem hasB_noA {l : List Int} {n : Int} (h : hasB l n = false) : n ∉ l := fun hm => by
  have : hasB l n = true := by
    unfold hasB
    rw [List.any_eq_true]
    exact ⟨n, hm, eqZ_self n⟩
  rw [h] at this
  cases this
theorem addNilA (l : List Int) (h : l.length ≤ 1000000) : addI [] l = some l := by
  rw [addI_ok (by rw [room_eq]; simp; omega)]
  rfl
theorem cloneA (x : List Int) (u : Unit) (h : x.length ≤ 1000000) : slices_Clone_int_int (x, u) () = some (x, ()) := by
  unfold slices_Clone_int_int
  simp only [addNilA x h, some_bind']
theorem PlanAdd_both (p : D_Project) (x : D_Plan) (a m t : Int) (hp : Sm_Project 1099511627776 p) (hx : x.2.1.length ≤ 1099511627776) :
    ∃ (w : D_Plan) (b : Bool), w.1.1.length ≤ 10 ∧ w.1.2.1.length ≤ 10 ∧ w.2.1.length ≤ 10 ∧ (∀ u, spec_PlanAdd (p, x, a, m, t, u) () = some ((w, b, ()), ())) ∧ ∀ u, impl_PlanAdd (p, x, a, m, t, u) () = some ((w, b, ()), ()) := by
  have no : (∀ u, spec_PlanFits (p, x, a, m, t, u) () = some (false, ())) → (∀ u, impl_PlanFits (p, x, a, m, t, u) () = some (false, ())) →
      ∃ (w : D_Plan) (b : Bool), w.1.1.length ≤ 10 ∧ w.1.2.1.length ≤ 10 ∧ w.2.1.length ≤ 10 ∧ (∀ u, spec_PlanAdd (p, x, a, m, t, u) () = some ((w, b, ()), ())) ∧ ∀ u, impl_PlanAdd (p, x, a, m, t, u) () = some ((w, b, ()), ()) := fun h1 h2 => by
    refine ⟨(([], ([], ())), ([], ())), false, by simp, by simp, by simp, fun u => ?_, fun u => ?_⟩
    · unfold spec_PlanAdd
      simp only [h1, some_bind', notB_false, if_true]
    · unfold impl_PlanAdd
      simp only [h2, some_bind', notB_false, if_true]
  rcases tf (okV24 p x a m) with ho | ho
  · refine no (fun u => ?_) (fun u => PlanFits_no p x a m t u hp hx ho)
    unfold spec_PlanFits
    simp only [l24Ok_s p x a m _ hp hx, ho, some_bind', Bool.false_eq_true, if_false]
  obtain ⟨s, d, rfl⟩ : ∃ s d, x = (s, (d, ())) := ⟨x.1, x.2.1, rfl⟩
  have ho' := ho
  unfold okV24 at ho'
  rcases tf (planB p (s, d, ())) with hP | hP
  · rw [hP] at ho'; cases ho'
  rcases tf (inB a 0 (subZ .i64 (lenI p.2.1) 1)) with hI | hI
  · rw [hP, hI] at ho'; cases ho'
  rcases tf (hasB d a) with hH | hH
  rotate_left
  · simp only [hP, hI, hH, if_true] at ho'; cases ho'
  obtain ⟨i, rfl, haa⟩ := inB_place hp.2.1.1 hI
  simp only [hP, hI, hH, if_true, Bool.false_eq_true, if_false, getI_lt haa] at ho'
  obtain ⟨h, hA, ha, hd⟩ := plan_at hP
  replace h : formB p s = true := h
  replace hA : Asc d := hA
  replace ha : actsIn p d := ha
  replace hd : d.length ≤ 6 := hd
  have hn := hasB_noA hH
  have hy := fun u => PlanFits_yes p s d i m t u hp hx hP haa hH ho'
  rcases tf (inB t 0 60) with hT | hT
  · refine no (fun u => ?_) (fun u => by rw [hy, hT]; rfl)
    unfold spec_PlanFits
    simp only [l24Ok_s p (s, d, ()) (i : Int) m _ hp hx, ho, some_bind', if_true, l01In_eq, hT, Bool.false_eq_true, if_false]
  have hsf : ∀ u, spec_PlanFits (p, (s, d, ()), (i : Int), m, t, u) () = some (fitsV p s d i m t, ()) := fun u => by
    unfold spec_PlanFits
    simp only [l24Ok_s p (s, d, ()) (i : Int) m _ hp hx, ho, some_bind', l01In_eq, hT, if_true, Fits_s p s d i m t _ hp h hA ha hd hn haa hT ho']
  rcases tf (fitsV p s d i m t) with hf | hf
  · exact no (fun u => by rw [hsf, hf]) (fun u => by rw [hy, hT, hf]; rfl)
  obtain ⟨n1, n2⟩ := form_len h
  have hn6 := (proj_actsP (proj_of_form h)).2
  have c1 := addNilA s.1 (by omega)
  have c2 := addNilA s.2.1 (by omega)
  have c3 := addNilA d (by omega)
  have k1 := fun u => cloneA s.1 u (by omega)
  have k2 := fun u => cloneA s.2.1 u (by omega)
  have k3 := fun u => cloneA d u (by omega)
  have l1 : (putS s (i : Int) m t).1.length ≤ 10 := by unfold putS; rw [setI_length]; omega
  have l2 : (putS s (i : Int) m t).2.1.length ≤ 10 := by unfold putS; simp only [setI_length]; omega
  refine ⟨(putS s (i : Int) m t, (insV (i : Int) d, ())), true, l1, l2, by simp only [insV_length]; omega, fun u => ?_, fun u => ?_⟩
  · unfold spec_PlanAdd spec_l24Copy spec_l09Copy putS
    simp only [hsf, hf, c1, c2, c3, some_bind', notB_true, Bool.false_eq_true, if_false, getI_lt (show i < s.1.length by omega), getI_lt (show i < s.2.1.length by omega), SetAdd_s d (i : Int) _ (by omega) hA hn]
  · unfold impl_PlanAdd impl_Plan_with impl_Plan_copied putS
    simp only [hy, hT, hf, Bool.and_self, k1, k2, k3, some_bind', notB_true, Bool.false_eq_true, if_false, getI_lt (show i < s.1.length by omega), getI_lt (show i < s.2.1.length by omega), SetAdd_c d (i : Int) _ (by omega) hA hn]
theorem plain_FnExactPlanAdd (p : D_Project) (x : D_Plan) (a m t : Int) (u : Unit) (hp : Sm_Project maxLen p) (hx : Sm_Plan maxLen x) : laws_FnExactPlanAdd (p, x, a, m, t, u) () = some (true, ()) := by
  unfold laws_FnExactPlanAdd
  obtain ⟨r1, e1, c1⟩ := sz_Project p 1048576 () (by omega) (by omega) hp
  simp only [e1, some_bind']
  rcases c1 with c1 | ⟨c1, d1, sp⟩
  · simp only [neg_yes c1, if_true]
  simp only [neg_no c1, Bool.false_eq_true, if_false]
  obtain ⟨r2, e2, c2⟩ := sz_Plan x r1 () c1 (by omega) hx
  simp only [e2, some_bind']
  rcases c2 with c2 | ⟨c2, d2, ss⟩
  · simp only [neg_yes c2, if_true]
  have sp' := smm_Project (B' := 1099511627776) (by omega) p sp
  have ss' := smm_Plan (B' := 1099511627776) (by omega) x ss
  obtain ⟨w, b, hw1, hw2, hw3, f1, f2⟩ := PlanAdd_both p x a m t sp' ss'.2.1.1
  have sw' : Sm_Plan 1099511627776 w := ⟨⟨⟨by omega, fun _ _ => trivial⟩, ⟨by omega, fun _ _ => trivial⟩, trivial⟩, ⟨by omega, fun _ _ => trivial⟩, trivial⟩
  have sw : Sm_Plan 1048576 w := ⟨⟨⟨by omega, fun _ _ => trivial⟩, ⟨by omega, fun _ _ => trivial⟩, trivial⟩, ⟨by omega, fun _ _ => trivial⟩, trivial⟩
  have hb1 := nb_Project p sp
  have hb2 := nb_Plan x ss
  have hb3 := nb_Plan w sw
  obtain ⟨p', m1⟩ := mk_Project p 1 sp' (by omega) (by omega)
  obtain ⟨x', m2⟩ := mk_Plan x (1 + ((n_Project p : Nat) : Int)) ss' (by omega) (by omega)
  obtain ⟨w', m3, q3⟩ := mh_Plan w 1 sw' (by omega) (by omega)
  have h2 : (0 : Int) ≤ 1 + ((n_Project p : Nat) : Int) + ((n_Plan x : Nat) : Int) := by omega
  have h3 : (0 : Int) ≤ 1 + ((n_Plan w : Nat) : Int) := by omega
  simp only [neg_no c2, Bool.false_eq_true, if_false, to_Project _ _ sp, to_Plan _ _ ss, some_bind', f1, f2, eq_Plan _ _ sw', eqB_self, eqZ_self, notB_true, eq_Project _ _ sp', eq_Plan _ _ ss', m1, m2, m3, q3, neg_no h2, neg_no h3]
theorem L_FnExactPlanAdd (x : Ty.dens H_laws_FnExactPlanAdd.ps) (h : Ty.fits H_laws_FnExactPlanAdd.ps x) : laws_FnExactPlanAdd x () = some (true, ()) := by
  obtain ⟨p, x, a, m, t, u⟩ := x
  exact plain_FnExactPlanAdd p x a m t u (smf_Project _ h.1) (smf_Plan _ h.2.1)
end Go.Proofs.YtdaafnncfkibkaaGreat
