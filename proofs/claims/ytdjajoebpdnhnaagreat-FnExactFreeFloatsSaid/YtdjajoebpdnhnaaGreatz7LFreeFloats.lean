/-
  Plain law: for all data within the bounds of the machine the law FnExactFreeFloats returns true.
-/
import Derived.Test.YtdjajoebpdnhnaaGreatz7LFloat
import Derived.Test.YtdjajoebpdnhnaaGreatz7V
namespace Go.Proofs.YtdjajoebpdnhnaaGreat
open Go.Abs
set_option linter.unusedVariables false
set_option linter.unusedSimpArgs false

theorem FreeFloats_both (p : D_Project) (s : D_Schedule) (hp : Sm_Project 1099511627776 p) : ∃ w : List Int, w.length ≤ 6 ∧ (∀ u, spec_FreeFloats (p, s, u) () = some (w, ())) ∧ ∀ u, impl_FreeFloats (p, s, u) () = some (w, ()) := by
  rcases tf (okV p s) with h | h
  · refine ⟨[], by simp, fun u => ?_, fun u => ?_⟩
    · unfold spec_FreeFloats
      simp [ScheduleOk_spec _ _ _ hp, h, notB]
    · unfold impl_FreeFloats
      simp [ScheduleOk_impl _ _ _ hp, h, notB]
  have hle := hp.2.1.1
  obtain ⟨n1, n2⟩ := proj_acts (proj_of_form (form_of_ok h))
  obtain ⟨o, o', l1, l2, w, n, hw, rfl, rfl⟩ := any_loops (F := impl_FreeFloats_L0) (G := spec_FreeFloats_L0) (fun i w => ((i : Int), (p.2.1.length : Int), p, s, w, ())) (fun i w => ((i : Int), (p.2.1.length : Int), p, s, w, ())) p.2.1.length
    (fun i (w : List Int) => w.length = i)
    (fun o o' => ∃ (w : List Int) (n : Int), w.length ≤ 6 ∧ o = .inl (.inl (false, n, n, p, s, w, ())) ∧ o' = .inl (.inl (false, n, n, p, s, w, ()))) hle
    (fun i w hi hI => by
      by_cases hi' : i < p.2.1.length
      · obtain ⟨v, e1, e2⟩ := FreeFloat_both p s (i : Int) hp
        refine .inl ⟨w ++ [v], hi', ?_, ?_, by simp [hI]⟩
        · unfold impl_FreeFloats_L0
          simp only [lt_yes hi', if_true, e2, some_bind', add_one w _ (by omega), idxN hi' hle (Nat.le_refl _)]
        · unfold spec_FreeFloats_L0
          simp only [lt_yes hi', if_true, e1, some_bind', add_one w _ (by omega), idxN hi' hle (Nat.le_refl _)]
      · obtain rfl : i = p.2.1.length := by omega
        refine .inr ⟨.inl (.inl (false, (p.2.1.length : Int), (p.2.1.length : Int), p, s, w, ())), .inl (.inl (false, (p.2.1.length : Int), (p.2.1.length : Int), p, s, w, ())), ?_, ?_, w, _, by omega, rfl, rfl⟩
        · unfold impl_FreeFloats_L0
          simp only [lt_no, Bool.false_eq_true, if_false]
          rfl
        · unfold spec_FreeFloats_L0
          simp only [lt_no, Bool.false_eq_true, if_false]
          rfl)
    (a := []) (s := (0, (p.2.1.length : Int), p, s, [], ())) (t := (0, (p.2.1.length : Int), p, s, [], ())) rfl rfl rfl
  refine ⟨w, hw, fun u => ?_, fun u => ?_⟩
  · unfold spec_FreeFloats
    simp only [ScheduleOk_spec _ _ _ hp, h, notB_true, Bool.false_eq_true, if_false, some_bind', lenI_eq, l2, fin]
  · unfold impl_FreeFloats
    simp only [ScheduleOk_impl _ _ _ hp, h, notB_true, Bool.false_eq_true, if_false, some_bind', lenI_eq, l1, fin]
theorem plain_FnExactFreeFloats (p : D_Project) (s : D_Schedule) (u : Unit) (hp : Sm_Project maxLen p) (hs : Sm_Schedule maxLen s) : laws_FnExactFreeFloats (p, s, u) () = some (true, ()) := by
  unfold laws_FnExactFreeFloats
  obtain ⟨r1, e1, c1⟩ := sz_Project p 1048576 () (by omega) (by omega) hp
  simp only [e1, some_bind']
  rcases c1 with c1 | ⟨c1, d1, sp⟩
  · simp only [neg_yes c1, if_true]
  simp only [neg_no c1, Bool.false_eq_true, if_false]
  obtain ⟨r2, e2, c2⟩ := sz_Schedule s r1 () c1 (by omega) hs
  simp only [e2, some_bind']
  rcases c2 with c2 | ⟨c2, d2, ss⟩
  · simp only [neg_yes c2, if_true]
  have sp' := smm_Project (B' := 1099511627776) (by omega) p sp
  have ss' := smm_Schedule (B' := 1099511627776) (by omega) s ss
  obtain ⟨w, hw, f1, f2⟩ := FreeFloats_both p s sp'
  have sw' : w.length ≤ 1099511627776 ∧ ∀ y ∈ w, True := ⟨by omega, fun _ _ => trivial⟩
  have sw : w.length ≤ 1048576 ∧ ∀ y ∈ w, True := ⟨by omega, fun _ _ => trivial⟩
  have hb1 := nb_Project p sp
  have hb2 := nb_Schedule s ss
  have hb3 := nb_IntS w sw
  obtain ⟨p', m1⟩ := mk_Project p 1 sp' (by omega) (by omega)
  obtain ⟨s', m2⟩ := mk_Schedule s (1 + ((n_Project p : Nat) : Int)) ss' (by omega) (by omega)
  obtain ⟨w', m3, q3⟩ := mh_IntS w 1 sw' (by omega) (by omega)
  have h2 : (0 : Int) ≤ 1 + ((n_Project p : Nat) : Int) + ((n_Schedule s : Nat) : Int) := by omega
  have h3 : (0 : Int) ≤ 1 + ((n_IntS w : Nat) : Int) := by omega
  simp only [neg_no c2, Bool.false_eq_true, if_false, to_Project _ _ sp, to_Schedule _ _ ss, some_bind', f1, f2, eq_IntS _ _ sw', eqZ_self, notB_true, eq_Project _ _ sp', eq_Schedule _ _ ss', m1, m2, m3, q3, neg_no h2, neg_no h3]
theorem L_FnExactFreeFloats (x : Ty.dens H_laws_FnExactFreeFloats.ps) (h : Ty.fits H_laws_FnExactFreeFloats.ps x) : laws_FnExactFreeFloats x () = some (true, ()) := by
  obtain ⟨p, s, u⟩ := x
  exact plain_FnExactFreeFloats p s u (smf_Project _ h.1) (smf_Schedule _ h.2.1)
end Go.Proofs.YtdjajoebpdnhnaaGreat
