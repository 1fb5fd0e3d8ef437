/-
  Plain law: for all data within the bounds of the machine the law FnExactTotalFloat returns true.
-/
import Derived.Test.YtdjajoebpdnhnaaGreatz6LTotal
namespace Go.Proofs.YtdjajoebpdnhnaaGreat
open Go.Abs
set_option linter.unusedVariables false
set_option linter.unusedSimpArgs false

theorem plain_FnExactTotalFloat (p : D_Project) (s : D_Schedule) (a : Int) (u : Unit) (hp : Sm_Project maxLen p) (hs : Sm_Schedule maxLen s) : laws_FnExactTotalFloat (p, s, a, u) () = some (true, ()) := by
  unfold laws_FnExactTotalFloat
  obtain ⟨r1, e1, c1⟩ := sz_Project p 1048576 () (by omega) (by omega) hp
  simp only [e1, some_bind']
  rcases c1 with c1 | ⟨c1, d1, sp⟩
  · simp only [neg_yes c1, if_true]
  simp only [neg_no c1, Bool.false_eq_true, if_false]
  obtain ⟨r2, e2, c2⟩ := sz_Schedule s r1 () c1 (by omega) hs
  simp only [e2, some_bind']
  rcases c2 with c2 | ⟨c2, d2, ss⟩
  · simp only [neg_yes c2, if_true]
  have sp' := smm_Project (B' := 1099511627776) (by omega) p sp
  have ss' := smm_Schedule (B' := 1099511627776) (by omega) s ss
  obtain ⟨v, -, f1, f2⟩ := TotalFloat_both p s a sp'
  simp only [neg_no c2, Bool.false_eq_true, if_false, to_Project _ _ sp, to_Schedule _ _ ss, some_bind', f1, f2, eqZ_self, notB_true, eq_Project _ _ sp', eq_Schedule _ _ ss']
theorem L_FnExactTotalFloat (x : Ty.dens H_laws_FnExactTotalFloat.ps) (h : Ty.fits H_laws_FnExactTotalFloat.ps x) : laws_FnExactTotalFloat x () = some (true, ()) := by
  obtain ⟨p, s, a, u⟩ := x
  exact plain_FnExactTotalFloat p s a u (smf_Project _ h.1) (smf_Schedule _ h.2.1)
end Go.Proofs.YtdjajoebpdnhnaaGreat
