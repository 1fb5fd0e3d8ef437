/-
  Plain law: for all data within the bounds of the machine the law FnExactPeakUsage returns true.
-/
import Derived.Test.Ytmbknefcilojkaag4LUse
namespace Go.Proofs.Ytmbknefcilojkaa
open Go.Abs
set_option linter.unusedVariables false
set_option linter.unusedSimpArgs false

def peakV (p : D_Project) (s : D_Schedule) (res : Int) : Int := foldN (fun t m => maxI m (useT p s res (t : Int))) 61 0 0
theorem foldN_zero (f : Nat → Int → Int) (h : ∀ t, f t 0 = 0) : ∀ (k i : Nat), foldN f k i 0 = 0
  | 0, _ => rfl
  | k + 1, i => by
    simp only [foldN, h]
    exact foldN_zero f h k (i + 1)
theorem PeakUsage_impl (p : D_Project) (s : D_Schedule) (res : Int) (u : Unit) (hp : Sm_Project 1099511627776 p) : impl_PeakUsage (p, s, res, u) () = some (peakV p s res, ()) := by
  have hres : ∀ (a : Int) (u : Unit), impl_Project_hasResource (p, a, u) () = some (inB a 0 (subZ .i64 (lenI p.2.2.2.1) 1), ()) := fun a u => by
    unfold impl_Project_hasResource
    simp only [within_eq, some_bind']
  have hzero : (inB res 0 (subZ .i64 (lenI p.2.2.2.1) 1) && formB p s) = false → peakV p s res = 0 := fun h => by
    unfold peakV
    refine foldN_zero _ (fun t => ?_) 61 0
    unfold useT
    rw [h]
    rfl
  unfold impl_PeakUsage
  simp only [ScheduleForm_impl _ _ _ hp, hres, some_bind']
  rcases tf (formB p s) with h | h
  · rw [hzero (by simp [h])]
    simp [h, notB]
  rcases tf (inB res 0 (subZ .i64 (lenI p.2.2.2.1) 1)) with h1 | h1
  · rw [hzero (by simp [h1])]
    simp [h, h1, hres, notB]
  have hu : ∀ t, useT p s res t = useV p s res t := fun t => by
    unfold useT
    rw [h1, h]
    rfl
  obtain ⟨j, rfl, hj⟩ := inB_place hp.2.2.2.1.1 h1
  have l0 := fun A : Type => (fold_loop (A := A) (B := (Bool × Int × D_Project × D_Schedule × Int × Int × Unit) ⊕ Empty) (C := Int × Unit) (F := impl_PeakUsage_L0) (fun t m => ((t : Int), p, s, (j : Int), m, ())) 61 (fun _ _ => True) (fun t m => maxI m (useT p s (j : Int) (t : Int))) (fun m => Sum.inl (false, ((61 : Nat) : Int), p, s, (j : Int), m, ())) (by omega)
    (fun t m ht _ => by
      have hl : ltZ (t : Int) 61 = true := by rw [ltZ_iff]; omega
      refine ⟨?_, trivial⟩
      unfold impl_PeakUsage_L0
      simp only [hl, if_true, usage_impl _ _ _ _ _ hp h hj, some_bind', hu, idxN ht (Nat.le_refl _) (show 61 ≤ 1099511627776 by omega)])
    (fun m _ => by
      have hl : ltZ ((61 : Nat) : Int) 61 = false := rfl
      unfold impl_PeakUsage_L0
      simp only [hl, Bool.false_eq_true, if_false])
    (a := 0) trivial).1
  have e0 : (((0 : Nat) : Int), p, s, (j : Int), (0 : Int), ()) = ((0 : Int), p, s, (j : Int), (0 : Int), ()) := rfl
  rw [e0] at l0
  simp only [h, h1, notB_true, Bool.false_eq_true, if_false, some_bind', hres, l0, peakV]
end Go.Proofs.Ytmbknefcilojkaa
