/-
  Plain laws: the domain that a project begins with, in the program and in the reference. Condition: no list is longer than 2 to the 40.
-/
import Derived.Test.YtmbknefcilojkaaGreatz3LProj2
import Derived.Test.YtmbknefcilojkaaGreatz3LSetM
namespace Go.Proofs.YtmbknefcilojkaaGreat
open Go.Abs
set_option linter.unusedVariables false
set_option linter.unusedSimpArgs false

theorem ModeIdx_s (a : D_Activity) (u : Unit) (h : a.2.2.1.length ≤ 200) : spec_ModeIndexes (a, u) () = some (iotaI a.2.2.1.length, ()) := by
  unfold spec_ModeIndexes
  simp only [lenI_eq, rangeN_s _ _ h, some_bind']
theorem ModeIdx_i (a : D_Activity) (u : Unit) (h : a.2.2.1.length ≤ 200) : impl_ModeIndexes (a, u) () = some (iotaI a.2.2.1.length, ()) := by
  unfold impl_ModeIndexes
  simp only [lenI_eq, rangeN_i, rangeN_s _ _ h, some_bind']
def initD (p : D_Project) : D_Domain := (p.2.1.map (fun _ => 0), p.2.1.map (fun _ => subZ .i64 p.1 1), p.2.1.map (fun a => iotaI a.2.2.1.length), ())
def initG (x : Int) (d : D_Domain) (a : D_Activity) : D_Domain := (d.1 ++ [0], d.2.1 ++ [x], d.2.2.1 ++ [iotaI a.2.2.1.length], ())
theorem initG_fold (x : Int) : ∀ (l : List D_Activity) (d : D_Domain), l.foldl (initG x) d = (d.1 ++ l.map (fun _ => 0), d.2.1 ++ l.map (fun _ => x), d.2.2.1 ++ l.map (fun a => iotaI a.2.2.1.length), ())
  | [], d => by simp
  | a :: l, d => by
    rw [List.foldl_cons, initG_fold x l]
    simp [initG]
theorem init_L0 : impl_InitialDomain_L0 = spec_l12Of_L0 := rfl
theorem init_loop (p : D_Project) (h : projB p = true) (A : Type) : loopN (A := A) big spec_l12Of_L0 (0, lenI p.2.1, p.2.1, p, ([], [], [], ()), ([], [], [], ()), ()) = some (.exit (Sum.inl (false, lenI p.2.1, lenI p.2.1, p.2.1, p, initD p, ([], [], [], ()), ()))) := by
  obtain ⟨hn, hm⟩ := mode_count h
  have l0 := (fold_list (A := A) (F := spec_l12Of_L0) (fun i (d : D_Domain) => ((i : Int), lenI p.2.1, p.2.1, p, d, ([], [], [], ()), ())) p.2.1 (fun i d => d.1.length = i ∧ d.2.1.length = i ∧ d.2.2.1.length = i) (initG (subZ .i64 p.1 1)) (fun d => Sum.inl (false, lenI p.2.1, lenI p.2.1, p.2.1, p, d, ([], [], [], ()), ())) (by omega)
    (fun i d hi hI => by
      obtain ⟨h1, h2, h3⟩ := hI
      have hlt : ltZ (i : Int) (lenI p.2.1) = true := lt_yes hi
      have hk := hm i hi
      have k := fun u => ModeIdx_s p.2.1[i] u (by omega)
      refine ⟨?_, by simp [initG, h1], by simp [initG, h2], by simp [initG, h3]⟩
      unfold spec_l12Of_L0
      simp only [hlt, if_true, getI_lt hi, some_bind', k, addOneR d.1 _ (show d.1.length ≤ 1048576 by omega), addOneR d.2.1 _ (show d.2.1.length ≤ 1048576 by omega), addOneR d.2.2.1 _ (show d.2.2.1.length ≤ 1048576 by omega), idxN hi (show p.2.1.length ≤ 1099511627776 by omega) (Nat.le_refl _)]
      rfl)
    (fun d _ => by
      have hlt : ltZ (p.2.1.length : Int) (lenI p.2.1) = false := lt_no _
      unfold spec_l12Of_L0
      simp only [hlt, Bool.false_eq_true, if_false]
      rfl)
    (a := ([], [], [], ())) (s := (0, lenI p.2.1, p.2.1, p, ([], [], [], ()), ([], [], [], ()), ())) rfl ⟨rfl, rfl, rfl⟩).1
  rw [initG_fold] at l0
  simpa [initD] using l0
theorem l12Of_eq (p : D_Project) (u : Unit) (h : projB p = true) : spec_l12Of (p, u) () = some (initD p, ()) := by
  unfold spec_l12Of
  simp only [init_loop p h, some_bind']
def initV (p : D_Project) : D_Domain := if projB p = true then initD p else ([], [], [], ())
theorem InitialDomain_impl (p : D_Project) (u : Unit) (hp : Sm_Project 1099511627776 p) : impl_InitialDomain (p, u) () = some (initV p, ()) := by
  unfold impl_InitialDomain initV
  rcases tf (projB p) with h | h
  · simp [ProjectOk_impl _ _ hp, h, notB]
  · simp only [ProjectOk_impl _ _ hp, h, some_bind', notB_true, Bool.false_eq_true, if_false, if_true, init_L0, init_loop p h]
theorem initD_sm {p : D_Project} (h : projB p = true) {B : Nat} (hB : 6 ≤ B) : Sm_Domain B (initD p) := by
  obtain ⟨hn, hm⟩ := mode_count h
  refine ⟨⟨by simp [initD]; omega, fun _ _ => trivial⟩, ⟨by simp [initD]; omega, fun _ _ => trivial⟩, ⟨by simp [initD]; omega, fun y hy => ?_⟩, trivial⟩
  obtain ⟨a, ha, rfl⟩ := List.mem_map.1 hy
  obtain ⟨i, hi, rfl⟩ := List.mem_iff_getElem.1 ha
  have := hm i hi
  exact ⟨by rw [iotaI_length]; omega, fun _ _ => trivial⟩
end Go.Proofs.YtmbknefcilojkaaGreat
