/-
  Plain law: for all data within the bounds of the machine the law FnExactPushActivity returns true.
-/
import Derived.Test.YtafnhdfjcocpgaaGreatw9LPush
import Derived.Test.YtafnhdfjcocpgaaGreatw9V
namespace Go.Proofs.YtafnhdfjcocpgaaGreat
open Go.Abs
set_option linter.unusedVariables false
set_option linter.unusedSimpArgs false

theorem plain_FnExactPushActivity (p : D_Project) (s : D_Schedule) (a k : Int) (u : Unit) (hp : Sm_Project maxLen p) (hs : Sm_Schedule maxLen s) : laws_FnExactPushActivity (p, s, a, k, u) () = some (true, ()) := by
  unfold laws_FnExactPushActivity
  obtain ⟨r1, e1, c1⟩ := sz_Project p 1048576 () (by omega) (by omega) hp
  simp only [e1, some_bind']
  rcases c1 with c1 | ⟨c1, d1, sp⟩
  · simp only [neg_yes c1, if_true]
  simp only [neg_no c1, Bool.false_eq_true, if_false]
  obtain ⟨r2, e2, c2⟩ := sz_Schedule s r1 () c1 (by omega) hs
  simp only [e2, some_bind']
  rcases c2 with c2 | ⟨c2, d2, ss⟩
  · simp only [neg_yes c2, if_true]
  have sp' := smm_Project (B' := 1099511627776) (by omega) p sp
  have ss' := smm_Schedule (B' := 1099511627776) (by omega) s ss
  obtain ⟨w, b, hw1, hw2, -, f1, f2⟩ := PushActivity_both p s a k sp'
  have sw' : Sm_Schedule 1099511627776 w := ⟨⟨by omega, fun _ _ => trivial⟩, ⟨by omega, fun _ _ => trivial⟩, trivial⟩
  have sw : Sm_Schedule 1048576 w := ⟨⟨by omega, fun _ _ => trivial⟩, ⟨by omega, fun _ _ => trivial⟩, trivial⟩
  have hb1 := nb_Project p sp
  have hb2 := nb_Schedule s ss
  have hb3 := nb_Schedule w sw
  obtain ⟨p', m1⟩ := mk_Project p 1 sp' (by omega) (by omega)
  obtain ⟨s', m2⟩ := mk_Schedule s (1 + ((n_Project p : Nat) : Int)) ss' (by omega) (by omega)
  obtain ⟨w', m3, q3⟩ := mh_Schedule w 1 sw' (by omega) (by omega)
  have h2 : (0 : Int) ≤ 1 + ((n_Project p : Nat) : Int) + ((n_Schedule s : Nat) : Int) := by omega
  have h3 : (0 : Int) ≤ 1 + ((n_Schedule w : Nat) : Int) := by omega
  simp only [neg_no c2, Bool.false_eq_true, if_false, to_Project _ _ sp, to_Schedule _ _ ss, some_bind', f1, f2, eq_Schedule _ _ sw', eqB_self, eqZ_self, notB_true, eq_Project _ _ sp', eq_Schedule _ _ ss', m1, m2, m3, q3, neg_no h2, neg_no h3]
theorem L_FnExactPushActivity (x : Ty.dens H_laws_FnExactPushActivity.ps) (h : Ty.fits H_laws_FnExactPushActivity.ps x) : laws_FnExactPushActivity x () = some (true, ()) := by
  obtain ⟨p, s, a, k, u⟩ := x
  exact plain_FnExactPushActivity p s a k u (smf_Project _ h.1) (smf_Schedule _ h.2.1)
end Go.Proofs.YtafnhdfjcocpgaaGreat
