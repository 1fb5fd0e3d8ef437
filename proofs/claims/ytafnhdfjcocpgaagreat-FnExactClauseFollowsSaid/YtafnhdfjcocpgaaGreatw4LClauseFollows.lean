/-
  Plain law: for all data within the bounds of the machine the law FnExactClauseFollows returns true.
-/
import Derived.Test.YtafnhdfjcocpgaaGreatw4LFollows
namespace Go.Proofs.YtafnhdfjcocpgaaGreat
open Go.Abs
set_option linter.unusedVariables false
set_option linter.unusedSimpArgs false

theorem plain_FnExactClauseFollows (p : D_Project) (r : D_Rule) (l : List D_Literal) (u : Unit) (hp : Sm_Project maxLen p) (hl : l.length ≤ maxLen ∧ ∀ y ∈ l, Sm_Literal maxLen y) : laws_FnExactClauseFollows (p, r, l, u) () = some (true, ()) := by
  unfold laws_FnExactClauseFollows
  obtain ⟨r1, e1, c1⟩ := sz_Project p 1048576 () (by omega) (by omega) hp
  simp only [e1, some_bind']
  rcases c1 with c1 | ⟨c1, d1, sp⟩
  · simp only [neg_yes c1, if_true]
  simp only [neg_no c1, Bool.false_eq_true, if_false]
  obtain ⟨r2, e2, c2⟩ := sz_LiteralS l r1 () c1 (by omega) hl
  simp only [e2, some_bind']
  rcases c2 with c2 | ⟨c2, d2, sl⟩
  · simp only [neg_yes c2, if_true]
  have sp' := smm_Project (B' := 1099511627776) (by omega) p sp
  have sl' : l.length ≤ 1099511627776 ∧ ∀ y ∈ l, Sm_Literal 1099511627776 y := ⟨by have := sl.1; omega, fun y hy => smm_Literal (by omega) y (sl.2 y hy)⟩
  obtain ⟨v, f1, f2⟩ := ClauseFollows_both p r l sp' sl'.1
  have hr : ∀ u, laws_toRule (r, u) () = some (r, ()) := fun u => to_Rule r u
  simp only [neg_no c2, Bool.false_eq_true, if_false, to_Project _ _ sp, to_LiteralS _ _ sl, hr, some_bind', f1, f2, eqB_self, notB_true, eq_Project _ _ sp', eq_LiteralS _ _ sl']
theorem L_FnExactClauseFollows (x : Ty.dens H_laws_FnExactClauseFollows.ps) (h : Ty.fits H_laws_FnExactClauseFollows.ps x) : laws_FnExactClauseFollows x () = some (true, ()) := by
  obtain ⟨p, r, l, u⟩ := x
  exact plain_FnExactClauseFollows p r l u (smf_Project _ h.1) ⟨h.2.2.1.1, fun y hy => smf_Literal _ (h.2.2.1.2 y hy)⟩
end Go.Proofs.YtafnhdfjcocpgaaGreat
