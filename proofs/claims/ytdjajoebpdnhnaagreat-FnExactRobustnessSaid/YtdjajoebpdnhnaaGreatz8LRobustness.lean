/-
  Plain law: for all data within the bounds of the machine the law FnExactRobustness returns true.
-/
import Derived.Test.YtdjajoebpdnhnaaGreatz8LTotal
namespace Go.Proofs.YtdjajoebpdnhnaaGreat
open Go.Abs
set_option linter.unusedVariables false
set_option linter.unusedSimpArgs false

theorem Robustness_both (p : D_Project) (s : D_Schedule) (hp : Sm_Project 1099511627776 p) : ∃ v, (∀ u, spec_Robustness (p, s, u) () = some (v, ())) ∧ ∀ u, impl_Robustness (p, s, u) () = some (v, ()) := by
  rcases tf (okV p s) with h | h
  · refine ⟨0, fun u => ?_, fun u => ?_⟩
    · unfold spec_Robustness
      simp [ScheduleOk_spec _ _ _ hp, h, notB]
    · unfold impl_Robustness
      simp [ScheduleOk_impl _ _ _ hp, h, notB]
  have hle := hp.2.1.1
  obtain ⟨n1, n2⟩ := proj_acts (proj_of_form (form_of_ok h))
  obtain ⟨v0, p0, i0, j0⟩ := TotalFloat_both p s 0 hp
  -- the program holds the least so far, or the first; the reference -1 or the least so far
  obtain ⟨o, o', l1, l2, v, n, hn, rfl, rfl⟩ := any_loops (F := impl_Robustness_L0) (G := spec_Robustness_L0) (α := Int × Int) (fun i m => ((i : Int), (p.2.1.length : Int), p, s, m.1, ())) (fun i m => ((i : Int), (p.2.1.length : Int), p, s, m.2, ())) p.2.1.length
    (fun i m => (i = 0 ∧ m = (v0, -1)) ∨ (0 < i ∧ 0 ≤ m.1 ∧ m.2 = m.1))
    (fun o o' => ∃ v n : Int, n = (p.2.1.length : Int) ∧ o = .inl (.inl (false, n, n, p, s, v, ())) ∧ o' = .inl (.inl (false, n, n, p, s, v, ()))) hle
    (fun i m hi hI => by
      by_cases hi' : i < p.2.1.length
      · obtain ⟨v, hv, e1, e2⟩ := TotalFloat_both p s (i : Int) hp
        rcases hI with ⟨rfl, rfl⟩ | ⟨hpos, hm, he⟩
        · have hvv : v = v0 := by
            have := (e1 ()).symm.trans (i0 ())
            cases this
            rfl
          subst hvv
          have hmin : minI v v = v := by unfold minI; split <;> rfl
          have hneg : ltZ (-1) 0 = true := rfl
          refine .inl ⟨(v, v), hi', ?_, ?_, .inr ⟨by omega, hv, rfl⟩⟩
          · unfold impl_Robustness_L0
            simp only [lt_yes hi', if_true, e2, some_bind', hmin, idxN hi' hle (Nat.le_refl _)]
          · unfold spec_Robustness_L0
            simp only [lt_yes hi', if_true, e1, some_bind', hneg, idxN hi' hle (Nat.le_refl _)]
        · obtain ⟨m1, m2⟩ := m
          simp only at hm he
          subst he
          have hneg : ltZ m2 0 = false := neg_no hm
          have hge : 0 ≤ minI m2 v := by unfold minI; split <;> omega
          have hcomm : minI m2 v = if ltZ v m2 = true then v else m2 := by
            rw [minI_if]
            unfold minI
            split <;> split <;> omega
          refine .inl ⟨(minI m2 v, minI m2 v), hi', ?_, ?_, .inr ⟨by omega, hge, rfl⟩⟩
          · unfold impl_Robustness_L0
            simp only [lt_yes hi', if_true, e2, some_bind', idxN hi' hle (Nat.le_refl _)]
          · unfold spec_Robustness_L0
            simp only [lt_yes hi', if_true, e1, some_bind', hneg, Bool.false_eq_true, if_false, hcomm]
            rcases tf (ltZ v m2) with hq | hq <;> simp [-Int.natCast_add, hq, idxN hi' hle (Nat.le_refl _)]
      · obtain rfl : i = p.2.1.length := by omega
        have hmm : m.2 = m.1 := by
          rcases hI with ⟨h0, -⟩ | ⟨-, -, he⟩
          · omega
          · exact he
        refine .inr ⟨.inl (.inl (false, (p.2.1.length : Int), (p.2.1.length : Int), p, s, m.1, ())), .inl (.inl (false, (p.2.1.length : Int), (p.2.1.length : Int), p, s, m.1, ())), ?_, ?_, m.1, _, rfl, rfl, rfl⟩
        · unfold impl_Robustness_L0
          simp only [lt_no, Bool.false_eq_true, if_false]
          rfl
        · unfold spec_Robustness_L0
          simp only [lt_no, Bool.false_eq_true, if_false, hmm]
          rfl)
    (a := (v0, -1)) (s := (0, (p.2.1.length : Int), p, s, v0, ())) (t := (0, (p.2.1.length : Int), p, s, -1, ())) rfl rfl (.inl ⟨rfl, rfl⟩)
  refine ⟨v, fun u => ?_, fun u => ?_⟩
  · unfold spec_Robustness
    simp only [ScheduleOk_spec _ _ _ hp, h, notB_true, Bool.false_eq_true, if_false, some_bind', lenI_eq, l2, fin]
  · unfold impl_Robustness
    simp only [ScheduleOk_impl _ _ _ hp, h, notB_true, Bool.false_eq_true, if_false, some_bind', lenI_eq, j0, l1, fin]
theorem plain_FnExactRobustness (p : D_Project) (s : D_Schedule) (u : Unit) (hp : Sm_Project maxLen p) (hs : Sm_Schedule maxLen s) : laws_FnExactRobustness (p, s, u) () = some (true, ()) := by
  unfold laws_FnExactRobustness
  obtain ⟨r1, e1, c1⟩ := sz_Project p 1048576 () (by omega) (by omega) hp
  simp only [e1, some_bind']
  rcases c1 with c1 | ⟨c1, d1, sp⟩
  · simp only [neg_yes c1, if_true]
  simp only [neg_no c1, Bool.false_eq_true, if_false]
  obtain ⟨r2, e2, c2⟩ := sz_Schedule s r1 () c1 (by omega) hs
  simp only [e2, some_bind']
  rcases c2 with c2 | ⟨c2, d2, ss⟩
  · simp only [neg_yes c2, if_true]
  have sp' := smm_Project (B' := 1099511627776) (by omega) p sp
  have ss' := smm_Schedule (B' := 1099511627776) (by omega) s ss
  obtain ⟨v, f1, f2⟩ := Robustness_both p s sp'
  simp only [neg_no c2, Bool.false_eq_true, if_false, to_Project _ _ sp, to_Schedule _ _ ss, some_bind', f1, f2, eqZ_self, notB_true, eq_Project _ _ sp', eq_Schedule _ _ ss']
theorem L_FnExactRobustness (x : Ty.dens H_laws_FnExactRobustness.ps) (h : Ty.fits H_laws_FnExactRobustness.ps x) : laws_FnExactRobustness x () = some (true, ()) := by
  obtain ⟨p, s, u⟩ := x
  exact plain_FnExactRobustness p s u (smf_Project _ h.1) (smf_Schedule _ h.2.1)
end Go.Proofs.YtdjajoebpdnhnaaGreat
