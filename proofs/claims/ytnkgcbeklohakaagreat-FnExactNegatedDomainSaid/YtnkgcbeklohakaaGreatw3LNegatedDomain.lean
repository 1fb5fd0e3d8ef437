/-
  Plain law: for all data within the bounds of the machine the law FnExactNegatedDomain returns true.
-/
import Derived.Test.YtnkgcbeklohakaaGreatw3LNegated
import Derived.Test.YtnkgcbeklohakaaGreatw3V
namespace Go.Proofs.YtnkgcbeklohakaaGreat
open Go.Abs
set_option linter.unusedVariables false
set_option linter.unusedSimpArgs false

theorem plain_FnExactNegatedDomain (p : D_Project) (l : List D_Literal) (u : Unit) (hp : Sm_Project maxLen p) (hl : l.length ≤ maxLen ∧ ∀ y ∈ l, Sm_Literal maxLen y) : laws_FnExactNegatedDomain (p, l, u) () = some (true, ()) := by
  unfold laws_FnExactNegatedDomain
  obtain ⟨r1, e1, c1⟩ := sz_Project p 1048576 () (by omega) (by omega) hp
  simp only [e1, some_bind']
  rcases c1 with c1 | ⟨c1, d1, sp⟩
  · simp only [neg_yes c1, if_true]
  simp only [neg_no c1, Bool.false_eq_true, if_false]
  obtain ⟨r2, e2, c2⟩ := sz_LiteralS l r1 () c1 (by omega) hl
  simp only [e2, some_bind']
  rcases c2 with c2 | ⟨c2, d2, sl⟩
  · simp only [neg_yes c2, if_true]
  have sp' := smm_Project (B' := 1099511627776) (by omega) p sp
  have sl' : l.length ≤ 1099511627776 ∧ ∀ y ∈ l, Sm_Literal 1099511627776 y := ⟨by omega, fun y _ => smI_Literal _ y⟩
  have sw := (negD_ok p l).sm (B := 1048576) (by omega)
  have sw' := smm_Domain (B' := 1099511627776) (by omega) _ sw
  have es := fun u => NegatedDomain_spec p l u sp' (by omega)
  have ei := fun u => NegatedDomain_impl p l u sp' (by omega)
  generalize negD p l = w at *
  have hb := nb_Project p sp
  obtain ⟨p', mk⟩ := mk_Project p 1 sp' (by omega) (by omega)
  have hbl := nb_LiteralS l sl
  obtain ⟨l', ml⟩ := mk_LiteralS l (1 + ((n_Project p : Nat) : Int)) sl' (by omega) (by omega)
  have hbw := nb_Domain w sw
  obtain ⟨w', mw, qw⟩ := mh_Domain w 1 sw' (by omega) (by omega)
  have hk : (0 : Int) ≤ 1 + ((n_Project p : Nat) : Int) + ((n_LiteralS l : Nat) : Int) := by omega
  have hm : (0 : Int) ≤ 1 + ((n_Domain w : Nat) : Int) := by omega
  simp only [neg_no c2, Bool.false_eq_true, if_false, to_Project _ _ sp, to_LiteralS _ _ sl, some_bind', es, ei, eq_Domain _ _ sw', eq_Project _ _ sp', eq_LiteralS _ _ sl', eqZ_self, notB_true, mk, ml, mw, qw, neg_no hk, neg_no hm]
theorem L_FnExactNegatedDomain (x : Ty.dens H_laws_FnExactNegatedDomain.ps) (h : Ty.fits H_laws_FnExactNegatedDomain.ps x) : laws_FnExactNegatedDomain x () = some (true, ()) := by
  obtain ⟨p, l, u⟩ := x
  exact plain_FnExactNegatedDomain p l u (smf_Project _ h.1) ⟨h.2.1.1, fun y hy => smI_Literal _ y⟩
end Go.Proofs.YtnkgcbeklohakaaGreat
