/-
  Plain laws: which delays are allowed, in the program and in the reference. Condition: no list is longer than 2 to the 40.
-/
import Derived.Test.Ytjgmjljdhgfdhaaa3LProj2
namespace Go.Proofs.Ytjgmjljdhgfdhaa
open Go.Abs
set_option linter.unusedVariables false
set_option linter.unusedSimpArgs false

def delayB (p : D_Project) (d : D_Delay) : Bool := projB p && inB d.2.2.2.1 0 60 &&
  (if eqZ d.1 1 = true then inB d.2.1 0 (subZ .i64 (lenI p.2.1) 1) && inB d.2.2.1 0 60
   else if eqZ d.1 2 = true then inB d.2.1 0 (subZ .i64 (lenI p.2.1) 1) && inB d.2.2.1 1 12
   else if eqZ d.1 3 = true then inB d.2.1 0 (subZ .i64 (lenI p.2.2.2.1) 1) && inB d.2.2.1 1 20 else false)
theorem hasResource_eq (p : D_Project) (a : Int) (u : Unit) : impl_Project_hasResource (p, a, u) () = some (inB a 0 (subZ .i64 (lenI p.2.2.2.1) 1), ()) := by
  unfold impl_Project_hasResource
  simp only [within_eq, some_bind']
theorem DelayOk_spec (p : D_Project) (d : D_Delay) (u : Unit) (h : Sm_Project 1099511627776 p) : spec_DelayOk (p, d, u) () = some (delayB p d, ()) := by
  unfold spec_DelayOk delayB
  simp only [ProjectOk_spec _ _ h, l01In_eq, some_bind']
  cases projB p with
  | false => simp [notB]
  | true =>
  cases h1 : inB d.2.2.2.1 0 60 with
  | false => simp [notB, l01In_eq, h1]
  | true =>
  simp only [notB_true, Bool.false_eq_true, if_false, h1, some_bind']
  generalize eqZ d.1 1 = a
  generalize eqZ d.1 2 = b
  generalize eqZ d.1 3 = c
  cases h2 : inB d.2.1 0 (subZ .i64 (lenI p.2.1) 1) <;> cases h3 : inB d.2.1 0 (subZ .i64 (lenI p.2.2.2.1) 1) <;> cases a <;> cases b <;> cases c <;> simp [l01In_eq, h2, h3]
theorem DelayOk_impl (p : D_Project) (d : D_Delay) (u : Unit) (h : Sm_Project 1099511627776 p) : impl_DelayOk (p, d, u) () = some (delayB p d, ()) := by
  unfold impl_DelayOk delayB
  simp only [ProjectOk_impl _ _ h, isTime_eq, hasActivity_eq, hasResource_eq, within_eq, some_bind']
  cases projB p with
  | false => simp [notB]
  | true =>
  cases h1 : inB d.2.2.2.1 0 60 with
  | false => simp [notB, isTime_eq, h1]
  | true =>
  simp only [notB_true, Bool.false_eq_true, if_false, h1, some_bind']
  generalize eqZ d.1 1 = a
  generalize eqZ d.1 2 = b
  generalize eqZ d.1 3 = c
  cases h2 : inB d.2.1 0 (subZ .i64 (lenI p.2.1) 1) <;> cases h3 : inB d.2.1 0 (subZ .i64 (lenI p.2.2.2.1) 1) <;> cases a <;> cases b <;> cases c <;> simp [isTime_eq, within_eq, hasActivity_eq, hasResource_eq, h2, h3]
end Go.Proofs.Ytjgmjljdhgfdhaa
