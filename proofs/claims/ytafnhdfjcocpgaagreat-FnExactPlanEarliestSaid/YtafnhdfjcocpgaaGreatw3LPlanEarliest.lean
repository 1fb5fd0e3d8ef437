/-
  Plain law: for all data within the bounds of the machine the law FnExactPlanEarliest returns true.
-/
import Derived.Test.YtafnhdfjcocpgaaGreatw3LFits
namespace Go.Proofs.YtafnhdfjcocpgaaGreat
open Go.Abs
set_option linter.unusedVariables false
set_option linter.unusedSimpArgs false

theorem l02Max_max (x : Int) (u : Unit) : spec_l02Max (0, x, u) () = some (maxI x 0, ()) := by
  unfold spec_l02Max maxI
  by_cases h : x < 0
  · have h1 : ltZ x 0 = true := by rw [ltZ_iff]; exact h
    simp only [h1, if_true, if_pos (show (0 : Int) > x from h)]
  · have h1 : ltZ x 0 = false := by rw [Bool.eq_false_iff, Ne, ltZ_iff]; exact h
    simp only [h1, Bool.false_eq_true, if_false, if_neg (show ¬ (0 : Int) > x from h)]
theorem maxI_ge (x : Int) : 0 ≤ maxI x 0 ∧ (maxI x 0 = x ∨ maxI x 0 = 0) := by
  unfold maxI
  split <;> omega
theorem proj_deadE {p : D_Project} (h : projB p = true) : 1 ≤ p.1 ∧ p.1 ≤ 60 := by
  unfold projB at h
  simp only [Bool.and_eq_true] at h
  exact inB_iff.1 h.1.1.1.1.1.1.1.1
theorem PlanEarliest_both (p : D_Project) (x : D_Plan) (a m t : Int) (hp : Sm_Project 1099511627776 p) (hx : x.2.1.length ≤ 1099511627776) (ht : t ≤ 9223372036854775807) :
    ∃ n b, (∀ u, spec_PlanEarliest (p, x, a, m, t, u) () = some ((n, b, ()), ())) ∧ ∀ u, impl_PlanEarliest (p, x, a, m, t, u) () = some ((n, b, ()), ()) := by
  have hg := maxI_ge t
  generalize hf : maxI t 0 = f at hg
  have hfu : f ≤ 9223372036854775807 := by omega
  rcases tf (okV24 p x a m) with ho | ho
  · rcases first_loop (F := impl_PlanEarliest_L0) (fun i => (f + (i : Int), p, x, a, m, ())) (61 - f).toNat (fun _ => false) (fun i => ((f + (i : Int), true, ()), ())) (Sum.inl (false, f + ((61 - f).toNat : Int), p, x, a, m, ())) (by omega)
      (fun i hi => by
        have h1 : leZ (f + (i : Int)) 60 = true := by rw [leZ_iff]; omega
        have hadd : addZ .i64 (f + (i : Int)) 1 = f + ((i + 1 : Nat) : Int) := by rw [addZ64 (by omega) (by omega)]; omega
        unfold impl_PlanEarliest_L0
        simp only [h1, if_true, PlanFits_no p x a m _ _ hp hx ho, some_bind', Bool.false_eq_true, if_false, hadd])
      (by
        have h1 : leZ (f + ((61 - f).toNat : Int)) 60 = false := by rw [Bool.eq_false_iff, Ne, leZ_iff]; omega
        unfold impl_PlanEarliest_L0
        simp only [h1, Bool.false_eq_true, if_false]) with ⟨k, -, h, -⟩ | ⟨-, hl⟩
    · simp at h
    · simp only [Int.natCast_zero, Int.add_zero] at hl
      refine ⟨0, false, fun u => ?_, fun u => ?_⟩
      · unfold spec_PlanEarliest
        simp [l24Ok_s p x a m _ hp hx, ho, notB]
      · unfold impl_PlanEarliest
        simp only [hf, hl]
        rfl
  · have ho' := ho
    unfold okV24 at ho'
    rcases tf (planB p x) with hP | hP
    · simp [hP] at ho'
    rcases tf (inB a 0 (subZ .i64 (lenI p.2.1) 1)) with hI | hI
    · simp [hP, hI] at ho'
    rcases tf (hasB x.2.1 a) with hH | hH
    rotate_left
    · simp [hP, hI, hH] at ho'
    obtain ⟨a, rfl, haa⟩ := inB_place hp.2.1.1 hI
    simp only [hP, hI, hH, if_true, Bool.false_eq_true, if_false, getI_lt haa] at ho'
    obtain ⟨s, d, w⟩ := x
    obtain ⟨h, hA, ha, hd⟩ := plan_at hP
    have hn := hasB_not hH
    have hdead := proj_deadE (proj_of_form h)
    have li := first_loop (F := impl_PlanEarliest_L0) (fun i => (f + (i : Int), p, (s, d, ()), (a : Int), m, ())) (61 - f).toNat (fun i => fitsV p s d a m (f + (i : Int))) (fun i => ((f + (i : Int), true, ()), ())) (Sum.inl (false, f + ((61 - f).toNat : Int), p, (s, d, ()), (a : Int), m, ())) (by omega)
      (fun i hi => by
        have h1 : leZ (f + (i : Int)) 60 = true := by rw [leZ_iff]; omega
        have hT : inB (f + (i : Int)) 0 60 = true := by rw [inB_iff]; omega
        have hadd : addZ .i64 (f + (i : Int)) 1 = f + ((i + 1 : Nat) : Int) := by rw [addZ64 (by omega) (by omega)]; omega
        unfold impl_PlanEarliest_L0
        simp only [h1, if_true, PlanFits_yes p s d a m _ _ hp hx hP haa hH ho', hT, Bool.true_and, some_bind']
        rcases tf (fitsV p s d a m (f + (i : Int))) with q | q <;> simp only [q, Bool.false_eq_true, if_true, if_false, hadd])
      (by
        have h1 : leZ (f + ((61 - f).toNat : Int)) 60 = false := by rw [Bool.eq_false_iff, Ne, leZ_iff]; omega
        unfold impl_PlanEarliest_L0
        simp only [h1, Bool.false_eq_true, if_false])
    have ls := first_loop (F := spec_PlanEarliest_L0) (fun i => (f + (i : Int), p, (s, d, ()), (a : Int), m, ())) (p.1 - f).toNat (fun i => fitsV p s d a m (f + (i : Int))) (fun i => ((f + (i : Int), true, ()), ())) (Sum.inl (false, f + ((p.1 - f).toNat : Int), p, (s, d, ()), (a : Int), m, ())) (by omega)
      (fun i hi => by
        have h1 : ltZ (f + (i : Int)) p.1 = true := by rw [ltZ_iff]; omega
        have hT : inB (f + (i : Int)) 0 60 = true := by rw [inB_iff]; omega
        have hadd : addZ .i64 (f + (i : Int)) 1 = f + ((i + 1 : Nat) : Int) := by rw [addZ64 (by omega) (by omega)]; omega
        unfold spec_PlanEarliest_L0
        simp only [h1, if_true, Fits_s p s d a m _ _ hp h hA ha hd hn haa hT ho', some_bind']
        rcases tf (fitsV p s d a m (f + (i : Int))) with q | q <;> simp only [q, Bool.false_eq_true, if_true, if_false, hadd])
      (by
        have h1 : ltZ (f + ((p.1 - f).toNat : Int)) p.1 = false := by rw [Bool.eq_false_iff, Ne, ltZ_iff]; omega
        unfold spec_PlanEarliest_L0
        simp only [h1, Bool.false_eq_true, if_false])
    have late : ∀ i : Nat, i < (61 - f).toNat → ¬ i < (p.1 - f).toNat → fitsV p s d a m (f + (i : Int)) = false := fun i h1 h2 =>
      fits_late hp h haa (by rw [inB_iff]; omega) ho' (by omega)
    simp only [Int.natCast_zero, Int.add_zero] at li ls
    rcases ls with ⟨k, hk, q1, q2, l1⟩ | ⟨q2, l1⟩ <;> rcases li with ⟨k', hk', q1', q2', l2⟩ | ⟨q2', l2⟩
    · have e : k' = k := by
        rcases Nat.lt_trichotomy k' k with e | e | e
        · rw [q2 k' e] at q1'; simp at q1'
        · exact e
        · rw [q2' k e] at q1; simp at q1
      subst e
      refine ⟨f + (k' : Int), true, fun u => ?_, fun u => ?_⟩
      · unfold spec_PlanEarliest
        simp only [l24Ok_s p _ _ m _ hp hx, ho, notB_true, Bool.false_eq_true, if_false, l02Max_max, hf, some_bind', l1]
      · unfold impl_PlanEarliest
        simp only [hf, l2]
        rfl
    · rw [q2' k (by omega)] at q1; simp at q1
    · by_cases e : k' < (p.1 - f).toNat
      · rw [q2 k' e] at q1'; simp at q1'
      · rw [late k' hk' e] at q1'; simp at q1'
    · refine ⟨0, false, fun u => ?_, fun u => ?_⟩
      · unfold spec_PlanEarliest
        simp only [l24Ok_s p _ _ m _ hp hx, ho, notB_true, Bool.false_eq_true, if_false, l02Max_max, hf, some_bind', l1]
      · unfold impl_PlanEarliest
        simp only [hf, l2]
        rfl
theorem plain_FnExactPlanEarliest (p : D_Project) (x : D_Plan) (a m t : Int) (u : Unit) (hp : Sm_Project maxLen p) (hx : Sm_Plan maxLen x) (ht : t ≤ 9223372036854775807) : laws_FnExactPlanEarliest (p, x, a, m, t, u) () = some (true, ()) := by
  unfold laws_FnExactPlanEarliest
  obtain ⟨r1, e1, c1⟩ := sz_Project p 1048576 () (by omega) (by omega) hp
  simp only [e1, some_bind']
  rcases c1 with c1 | ⟨c1, d1, sp⟩
  · simp only [neg_yes c1, if_true]
  simp only [neg_no c1, Bool.false_eq_true, if_false]
  obtain ⟨r2, e2, c2⟩ := sz_Plan x r1 () c1 (by omega) hx
  simp only [e2, some_bind']
  rcases c2 with c2 | ⟨c2, d2, ss⟩
  · simp only [neg_yes c2, if_true]
  have sp' := smm_Project (B' := 1099511627776) (by omega) p sp
  have ss' := smm_Plan (B' := 1099511627776) (by omega) x ss
  obtain ⟨n, b, f1, f2⟩ := PlanEarliest_both p x a m t sp' ss'.2.1.1 ht
  simp only [neg_no c2, Bool.false_eq_true, if_false, to_Project _ _ sp, to_Plan _ _ ss, some_bind', f1, f2, eqZ_self, eqB_self, notB_true, eq_Project _ _ sp', eq_Plan _ _ ss']
theorem i64_le {t : Int} (hw : (Lit.int .i64 t).wf = true) : t ≤ 9223372036854775807 := by
  simp [Lit.wf, IntKind.min, IntKind.max, IntKind.signed, IntKind.bits] at hw
  omega
theorem L_FnExactPlanEarliest (x : Ty.dens H_laws_FnExactPlanEarliest.ps) (h : Ty.fits H_laws_FnExactPlanEarliest.ps x) : laws_FnExactPlanEarliest x () = some (true, ()) := by
  obtain ⟨p, x, a, m, t, u⟩ := x
  exact plain_FnExactPlanEarliest p x a m t u (smf_Project _ h.1) (smf_Plan _ h.2.1) (i64_le h.2.2.2.2.1)
end Go.Proofs.YtafnhdfjcocpgaaGreat
