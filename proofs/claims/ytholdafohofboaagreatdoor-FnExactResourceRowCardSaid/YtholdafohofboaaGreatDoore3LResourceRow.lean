/-
  Plain law: for all data within the bounds of the machine the law FnExactResourceRow returns true.
-/
import Derived.Test.YtholdafohofboaaGreatDoore3LResRow
namespace Go.Proofs.YtholdafohofboaaGreatDoor
open Go.Abs
set_option linter.unusedVariables false

theorem plain_FnExactResourceRow (p : D_Project) (s : D_Schedule) (r : Int) (u : Unit) (hp : Sm_Project maxLen p) (hs : Sm_Schedule maxLen s) : laws_FnExactResourceRow (p, s, r, u) () = some (true, ()) := by
  unfold laws_FnExactResourceRow
  obtain ⟨r1, e1, c1⟩ := sz_Project p 1048576 () (by omega) (by omega) hp
  simp only [e1, some_bind']
  rcases c1 with c1 | ⟨c1, d1, sp⟩
  · simp only [neg_yes c1, if_true]
  have sp' := smm_Project (B' := 1099511627776) (by omega) p sp
  simp only [neg_no c1, Bool.false_eq_true, if_false]
  obtain ⟨r2, e2, c2⟩ := sz_Schedule s r1 () c1 d1 hs
  simp only [e2, some_bind']
  rcases c2 with c2 | ⟨c2, d2, sd⟩
  · simp only [neg_yes c2, if_true]
  have sd' := smm_Schedule (B' := 1099511627776) (by omega) s sd
  simp only [neg_no c2, Bool.false_eq_true, if_false, to_Project _ _ sp, to_Schedule _ _ sd, some_bind', ResourceRow_spec _ _ _ _ sp', ResourceRow_impl _ _ _ _ sp', eqS_self, notB_true, eq_Project _ _ sp', eq_Schedule _ _ sd']
theorem L_FnExactResourceRow (x : Ty.dens H_laws_FnExactResourceRow.ps) (h : Ty.fits H_laws_FnExactResourceRow.ps x) : laws_FnExactResourceRow x () = some (true, ()) := by
  obtain ⟨a, b, c, u⟩ := x
  exact plain_FnExactResourceRow a b c u (smf_Project _ h.1) (smf_Schedule _ h.2.1)
end Go.Proofs.YtholdafohofboaaGreatDoor
