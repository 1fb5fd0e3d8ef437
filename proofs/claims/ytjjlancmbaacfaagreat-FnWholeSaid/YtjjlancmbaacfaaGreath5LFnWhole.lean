/-
  Plain law: for every code the law FnWhole returns true.
-/
import Derived.Test.YtjjlancmbaacfaaGreath5LMakePlan
namespace Go.Proofs.YtjjlancmbaacfaaGreat
open Go.Abs
set_option linter.unusedVariables false
set_option linter.unusedSimpArgs false

theorem plain_FnWhole (b : List Int) : laws_FnWhole (b, ()) () = some (true, ()) := by
  unfold laws_FnWhole
  simp only [lenI_eq]
  rcases tf (ltZ 1048576 (b.length : Int)) with hb | hb
  · have hb' : b.length ≤ 1048576 := by
      rw [Bool.eq_false_iff, Ne, ltZ_iff] at hb
      omega
    obtain ⟨p, hP3, ep⟩ := MakeProject_eq b hb'
    have hP := hP3.mono (show 3 ≤ 6 by omega)
    obtain ⟨s, d, h, es⟩ := MakePlan_eq b hb' p hP
    have hp : Sm_Project 1099511627776 p := hP.sm (by omega) (by omega)
    have hd := h.len
    have hx : d.length ≤ 1099511627776 := by omega
    have hO := fun u => PlanOk_impl p (s, d, ()) u hp hx
    simp only [hb, Bool.false_eq_true, if_false, ep, es, some_bind', hO, h.plan]
    rcases tf (eqZ (d.length : Int) (p.2.1.length : Int)) with hq | hq
    · have hno : okV24 p (s, d, ()) (p.2.1.length : Int) 0 = false := by
        have hI : inB (p.2.1.length : Int) 0 (subZ .i64 (lenI p.2.1) 1) = false := by
          have := hP.al
          rw [Bool.eq_false_iff, Ne, inB_iff, lenI_eq, subZ64 (by omega) (by omega)]
          omega
        unfold okV24
        simp only [h.plan, hI, if_true, Bool.false_eq_true, if_false]
      simp only [hq, Bool.false_eq_true, if_false, if_true, PlanFits_no p (s, d, ()) _ _ _ _ hp hx hno, some_bind', notB_false]
    · rw [eqZ_iff] at hq
      obtain ⟨k1, k2⟩ := whole_ok hp h (by omega)
      have hle : leZ (spanV p s) p.1 = true := by rw [leZ_iff]; exact k2
      have hq' : eqZ (d.length : Int) (p.2.1.length : Int) = true := by rw [eqZ_iff]; exact hq
      simp only [hq', if_true, ScheduleOk_impl _ _ _ hp, k1, some_bind', Makespan_impl _ _ _ hp, h.f, hle]
  · simp only [hb, if_true]
theorem L_FnWhole (x : Ty.dens H_laws_FnWhole.ps) (h : Ty.fits H_laws_FnWhole.ps x) : laws_FnWhole x () = some (true, ()) := by
  obtain ⟨b, u⟩ := x
  exact plain_FnWhole b
end Go.Proofs.YtjjlancmbaacfaaGreat
