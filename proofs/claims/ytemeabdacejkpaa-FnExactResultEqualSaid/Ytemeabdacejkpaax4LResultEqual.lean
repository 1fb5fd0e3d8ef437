/-
  Plain law: for all data within the bounds of the machine the law FnExactResultEqual returns true.
-/
import Derived.Test.Ytemeabdacejkpaax4LRes
namespace Go.Proofs.Ytemeabdacejkpaa
open Go.Abs
set_option linter.unusedVariables false
set_option linter.unusedSimpArgs false

theorem plain_FnExactResultEqual (a b : D_Result) (u : Unit) (ha : Sm_Result maxLen a) (hb : Sm_Result maxLen b) : laws_FnExactResultEqual (a, b, u) () = some (true, ()) := by
  unfold laws_FnExactResultEqual
  obtain ⟨r1, e1, c1⟩ := sz_Result a 1048576 () (by omega) (by omega) ha
  simp only [e1, some_bind']
  rcases c1 with c1 | ⟨c1, d1, sa⟩
  · simp only [neg_yes c1, if_true]
  simp only [neg_no c1, Bool.false_eq_true, if_false]
  obtain ⟨r2, e2, c2⟩ := sz_Result b r1 () c1 (by omega) hb
  simp only [e2, some_bind']
  rcases c2 with c2 | ⟨c2, d2, sb⟩
  · simp only [neg_yes c2, if_true]
  have sa' := smm_Result (B' := 1099511627776) (by omega) a sa
  have sb' := smm_Result (B' := 1099511627776) (by omega) b sb
  simp only [neg_no c2, Bool.false_eq_true, if_false, to_Result _ _ sa, to_Result _ _ sb, some_bind', ResultEqual_spec _ _ _ sa', ResultEqual_impl _ _ _ sa', eqB_self, notB_true, eq_Result _ _ sa', eq_Result _ _ sb']
theorem L_FnExactResultEqual (x : Ty.dens H_laws_FnExactResultEqual.ps) (h : Ty.fits H_laws_FnExactResultEqual.ps x) : laws_FnExactResultEqual x () = some (true, ()) := by
  obtain ⟨a, b, u⟩ := x
  exact plain_FnExactResultEqual a b u (smf_Result _ h.1) (smf_Result _ h.2.1)
end Go.Proofs.Ytemeabdacejkpaa
