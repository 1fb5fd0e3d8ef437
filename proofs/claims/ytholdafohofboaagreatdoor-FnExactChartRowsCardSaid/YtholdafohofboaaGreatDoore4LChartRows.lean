/-
  Plain law: for all data within the bounds of the machine the law FnExactChartRows returns true.
-/
import Derived.Test.YtholdafohofboaaGreatDoore4LChartM
import Derived.Test.YtholdafohofboaaGreatDoore4V
namespace Go.Proofs.YtholdafohofboaaGreatDoor
open Go.Abs
set_option linter.unusedVariables false

theorem plain_FnExactChartRows (p : D_Project) (s : D_Schedule) (u : Unit) (hp : Sm_Project maxLen p) (hs : Sm_Schedule maxLen s) : laws_FnExactChartRows (p, s, u) () = some (true, ()) := by
  unfold laws_FnExactChartRows
  obtain ⟨r1, e1, c1⟩ := sz_Project p 1048576 () (by omega) (by omega) hp
  simp only [e1, some_bind']
  rcases c1 with c1 | ⟨c1, d1, sp⟩
  · simp only [neg_yes c1, if_true]
  have sp' := smm_Project (B' := 1099511627776) (by omega) p sp
  simp only [neg_no c1, Bool.false_eq_true, if_false]
  obtain ⟨r2, e2, c2⟩ := sz_Schedule s r1 () c1 d1 hs
  simp only [e2, some_bind']
  rcases c2 with c2 | ⟨c2, d2, sd⟩
  · simp only [neg_yes c2, if_true]
  have sd' := smm_Schedule (B' := 1099511627776) (by omega) s sd
  have hb := nb_Project p sp
  have hc := nb_Schedule s sd
  obtain ⟨p', mk⟩ := mk_Project p 1 sp' (by omega) (by omega)
  obtain ⟨s', ms⟩ := mk_Schedule s (1 + ((n_Project p : Nat) : Int)) sd' (by omega) (by omega)
  have ck := chartV_small p s
  have sw : (chartV p s).length ≤ 1048576 ∧ ∀ y ∈ chartV p s, y.length ≤ 1048576 := ⟨by omega, fun y hy => by have := ck.2 y hy; omega⟩
  have sw' : (chartV p s).length ≤ 1099511627776 ∧ ∀ y ∈ chartV p s, y.length ≤ 1099511627776 := ⟨by omega, fun y hy => by have := ck.2 y hy; omega⟩
  have hbw := nb_StringS _ sw
  obtain ⟨w', mw, qw⟩ := mh_StringS _ 1 sw' (by omega) (by omega)
  have hk : (0 : Int) ≤ 1 + ((n_Project p : Nat) : Int) + ((n_Schedule s : Nat) : Int) := by omega
  have hm : (0 : Int) ≤ 1 + ((n_StringS (chartV p s) : Nat) : Int) := by omega
  have k1 := (ChartRows_both p s sp').1
  have k2 := (ChartRows_both p s sp').2
  simp only [neg_no c2, Bool.false_eq_true, if_false, to_Project _ _ sp, to_Schedule _ _ sd, some_bind', k1, k2, eq_StringS _ _ sw', eq_Project _ _ sp', eq_Schedule _ _ sd', eqZ_self, notB_true, mk, ms, mw, qw, neg_no hk, neg_no hm]
theorem L_FnExactChartRows (x : Ty.dens H_laws_FnExactChartRows.ps) (h : Ty.fits H_laws_FnExactChartRows.ps x) : laws_FnExactChartRows x () = some (true, ()) := by
  obtain ⟨a, b, u⟩ := x
  exact plain_FnExactChartRows a b u (smf_Project _ h.1) (smf_Schedule _ h.2.1)
end Go.Proofs.YtholdafohofboaaGreatDoor
