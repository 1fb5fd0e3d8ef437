/-
  Plain law: for all data within the bounds of the machine the law FnExactAllSchedules returns true.
-/
import Derived.Test.YtnkgcbeklohakaaGreatw6LSched
import Derived.Test.YtnkgcbeklohakaaGreatw6V
namespace Go.Proofs.YtnkgcbeklohakaaGreat
open Go.Abs
set_option linter.unusedVariables false
set_option linter.unusedSimpArgs false

theorem plain_FnExactAllSchedules (p : D_Project) (m : Int) (u : Unit) (hp : Sm_Project maxLen p) : laws_FnExactAllSchedules (p, m, u) () = some (true, ()) := by
  unfold laws_FnExactAllSchedules
  obtain ⟨r1, e1, c1⟩ := sz_Project p 1048576 () (by omega) (by omega) hp
  simp only [e1, some_bind']
  rcases c1 with c1 | ⟨c1, d1, sp⟩
  · simp only [neg_yes c1, if_true]
  have sp' := smm_Project (B' := 1099511627776) (by omega) p sp
  obtain ⟨w, hw, hws, f1, f2⟩ := AllSchedules_both p m sp'
  have sm : ∀ (B : Nat), 6 ≤ B → ∀ y ∈ w, Sm_Schedule B y := fun B hB y hy => ⟨⟨by have := (hws y hy).1; omega, fun _ _ => trivial⟩, ⟨by have := (hws y hy).2; omega, fun _ _ => trivial⟩, trivial⟩
  have sw : w.length ≤ 1048576 ∧ ∀ y ∈ w, Sm_Schedule 1048576 y := ⟨by omega, sm _ (by omega)⟩
  have sw' : w.length ≤ 1099511627776 ∧ ∀ y ∈ w, Sm_Schedule 1099511627776 y := ⟨by omega, sm _ (by omega)⟩
  have hb := nb_Project p sp
  obtain ⟨p', mk⟩ := mk_Project p 1 sp' (by omega) (by omega)
  have hbw := nb_ScheduleS _ sw
  obtain ⟨w', mw, qw⟩ := mh_ScheduleS w 1 sw' (by omega) (by omega)
  have hk : (0 : Int) ≤ 1 + ((n_Project p : Nat) : Int) := by omega
  have hm : (0 : Int) ≤ 1 + ((n_ScheduleS w : Nat) : Int) := by omega
  simp only [neg_no c1, Bool.false_eq_true, if_false, to_Project _ _ sp, some_bind', f1, f2, eq_ScheduleS _ _ sw', eq_Project _ _ sp', eqZ_self, notB_true, mk, mw, qw, neg_no hk, neg_no hm]
theorem L_FnExactAllSchedules (x : Ty.dens H_laws_FnExactAllSchedules.ps) (h : Ty.fits H_laws_FnExactAllSchedules.ps x) : laws_FnExactAllSchedules x () = some (true, ()) := by
  obtain ⟨p, m, u⟩ := x
  exact plain_FnExactAllSchedules p m u (smf_Project _ h.1)
end Go.Proofs.YtnkgcbeklohakaaGreat
