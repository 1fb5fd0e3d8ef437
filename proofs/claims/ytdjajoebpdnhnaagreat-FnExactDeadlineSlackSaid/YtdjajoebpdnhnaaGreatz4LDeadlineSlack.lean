/-
  Plain law: for all data within the bounds of the machine the law FnExactDeadlineSlack returns true.
-/
import Derived.Test.YtdjajoebpdnhnaaGreatz4LSlack
namespace Go.Proofs.YtdjajoebpdnhnaaGreat
open Go.Abs
set_option linter.unusedVariables false
set_option linter.unusedSimpArgs false

theorem plain_FnExactDeadlineSlack (p : D_Project) (s : D_Schedule) (u : Unit) (hp : Sm_Project maxLen p) (hs : Sm_Schedule maxLen s) : laws_FnExactDeadlineSlack (p, s, u) () = some (true, ()) := by
  unfold laws_FnExactDeadlineSlack
  obtain ⟨r1, e1, c1⟩ := sz_Project p 1048576 () (by omega) (by omega) hp
  simp only [e1, some_bind']
  rcases c1 with c1 | ⟨c1, d1, sp⟩
  · simp only [neg_yes c1, if_true]
  simp only [neg_no c1, Bool.false_eq_true, if_false]
  obtain ⟨r2, e2, c2⟩ := sz_Schedule s r1 () c1 (by omega) hs
  simp only [e2, some_bind']
  rcases c2 with c2 | ⟨c2, d2, ss⟩
  · simp only [neg_yes c2, if_true]
  have sp' := smm_Project (B' := 1099511627776) (by omega) p sp
  have ss' := smm_Schedule (B' := 1099511627776) (by omega) s ss
  simp only [neg_no c2, Bool.false_eq_true, if_false, to_Project _ _ sp, to_Schedule _ _ ss, some_bind', DeadlineSlack_spec _ _ _ sp', DeadlineSlack_impl _ _ _ sp', eqZ_self, notB_true, eq_Project _ _ sp', eq_Schedule _ _ ss']
theorem L_FnExactDeadlineSlack (x : Ty.dens H_laws_FnExactDeadlineSlack.ps) (h : Ty.fits H_laws_FnExactDeadlineSlack.ps x) : laws_FnExactDeadlineSlack x () = some (true, ()) := by
  obtain ⟨p, s, u⟩ := x
  exact plain_FnExactDeadlineSlack p s u (smf_Project _ h.1) (smf_Schedule _ h.2.1)
end Go.Proofs.YtdjajoebpdnhnaaGreat
