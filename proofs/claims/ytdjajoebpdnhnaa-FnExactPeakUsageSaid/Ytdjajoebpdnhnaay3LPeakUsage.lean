/-
  Plain law: for all data within the bounds of the machine the law FnExactPeakUsage returns true.
-/
import Derived.Test.Ytdjajoebpdnhnaay3LUse
namespace Go.Proofs.Ytdjajoebpdnhnaa
open Go.Abs
set_option linter.unusedVariables false
set_option linter.unusedSimpArgs false

theorem l02Max_eq (x y : Int) (u : Unit) : spec_l02Max (x, y, u) () = some (maxI x y, ()) := by
  unfold spec_l02Max
  rw [← maxI_if]
  rcases tf (ltZ y x) with h | h <;> simp [h]
def peakV (p : D_Project) (s : D_Schedule) (res : Int) : Int := foldN (fun t m => maxI m (useT p s res (t : Int))) 61 0 0
theorem PeakUsage_spec (p : D_Project) (s : D_Schedule) (res : Int) (u : Unit) (hp : Sm_Project 1099511627776 p) : spec_PeakUsage (p, s, res, u) () = some (peakV p s res, ()) := by
  unfold spec_PeakUsage peakV
  have l0 := fun A : Type => (fold_loop (A := A) (B := (Bool × Int × D_Project × D_Schedule × Int × Int × Unit) ⊕ Empty) (C := Int × Unit) (F := spec_PeakUsage_L0) (fun t m => ((t : Int), p, s, res, m, ())) 61 (fun _ _ => True) (fun t m => maxI m (useT p s res (t : Int))) (fun m => Sum.inl (false, ((61 : Nat) : Int), p, s, res, m, ())) (by omega)
    (fun t m ht _ => by
      have hl : leZ (t : Int) 60 = true := by rw [leZ_iff]; omega
      refine ⟨?_, trivial⟩
      unfold spec_PeakUsage_L0
      simp only [hl, if_true, UsageAt_spec _ _ _ _ _ hp, some_bind', l02Max_eq, idxN ht (Nat.le_refl _) (show 61 ≤ 1099511627776 by omega)])
    (fun m _ => by
      have hl : leZ ((61 : Nat) : Int) 60 = false := rfl
      unfold spec_PeakUsage_L0
      simp only [hl, Bool.false_eq_true, if_false])
    (a := 0) trivial).1
  have e0 : (((0 : Nat) : Int), p, s, res, (0 : Int), ()) = ((0 : Int), p, s, res, (0 : Int), ()) := rfl
  rw [e0] at l0
  simp only [l0, some_bind']
theorem foldN_zero (f : Nat → Int → Int) (h : ∀ t, f t 0 = 0) : ∀ (k i : Nat), foldN f k i 0 = 0
  | 0, _ => rfl
  | k + 1, i => by
    simp only [foldN, h]
    exact foldN_zero f h k (i + 1)
theorem PeakUsage_impl (p : D_Project) (s : D_Schedule) (res : Int) (u : Unit) (hp : Sm_Project 1099511627776 p) : impl_PeakUsage (p, s, res, u) () = some (peakV p s res, ()) := by
  have hres : ∀ (a : Int) (u : Unit), impl_Project_hasResource (p, a, u) () = some (inB a 0 (subZ .i64 (lenI p.2.2.2.1) 1), ()) := fun a u => by
    unfold impl_Project_hasResource
    simp only [within_eq, some_bind']
  have hzero : (inB res 0 (subZ .i64 (lenI p.2.2.2.1) 1) && formB p s) = false → peakV p s res = 0 := fun h => by
    unfold peakV
    refine foldN_zero _ (fun t => ?_) 61 0
    unfold useT
    rw [h]
    rfl
  unfold impl_PeakUsage
  simp only [ScheduleForm_impl _ _ _ hp, hres, some_bind']
  rcases tf (formB p s) with h | h
  · rw [hzero (by simp [h])]
    simp [h, notB]
  rcases tf (inB res 0 (subZ .i64 (lenI p.2.2.2.1) 1)) with h1 | h1
  · rw [hzero (by simp [h1])]
    simp [h, h1, hres, notB]
  have hu : ∀ t, useT p s res t = useV p s res t := fun t => by
    unfold useT
    rw [h1, h]
    rfl
  obtain ⟨j, rfl, hj⟩ := inB_place hp.2.2.2.1.1 h1
  have l0 := fun A : Type => (fold_loop (A := A) (B := (Bool × Int × D_Project × D_Schedule × Int × Int × Unit) ⊕ Empty) (C := Int × Unit) (F := impl_PeakUsage_L0) (fun t m => ((t : Int), p, s, (j : Int), m, ())) 61 (fun _ _ => True) (fun t m => maxI m (useT p s (j : Int) (t : Int))) (fun m => Sum.inl (false, ((61 : Nat) : Int), p, s, (j : Int), m, ())) (by omega)
    (fun t m ht _ => by
      have hl : ltZ (t : Int) 61 = true := by rw [ltZ_iff]; omega
      refine ⟨?_, trivial⟩
      unfold impl_PeakUsage_L0
      simp only [hl, if_true, usage_impl _ _ _ _ _ hp h hj, some_bind', hu, idxN ht (Nat.le_refl _) (show 61 ≤ 1099511627776 by omega)])
    (fun m _ => by
      have hl : ltZ ((61 : Nat) : Int) 61 = false := rfl
      unfold impl_PeakUsage_L0
      simp only [hl, Bool.false_eq_true, if_false])
    (a := 0) trivial).1
  have e0 : (((0 : Nat) : Int), p, s, (j : Int), (0 : Int), ()) = ((0 : Int), p, s, (j : Int), (0 : Int), ()) := rfl
  rw [e0] at l0
  simp only [h, h1, notB_true, Bool.false_eq_true, if_false, some_bind', hres, l0, peakV]
theorem plain_FnExactPeakUsage (p : D_Project) (s : D_Schedule) (a : Int) (u : Unit) (hp : Sm_Project maxLen p) (hs : Sm_Schedule maxLen s) : laws_FnExactPeakUsage (p, s, a, u) () = some (true, ()) := by
  unfold laws_FnExactPeakUsage
  obtain ⟨r1, e1, c1⟩ := sz_Project p 1048576 () (by omega) (by omega) hp
  simp only [e1, some_bind']
  rcases c1 with c1 | ⟨c1, d1, sp⟩
  · simp only [neg_yes c1, if_true]
  simp only [neg_no c1, Bool.false_eq_true, if_false]
  obtain ⟨r2, e2, c2⟩ := sz_Schedule s r1 () c1 (by omega) hs
  simp only [e2, some_bind']
  rcases c2 with c2 | ⟨c2, d2, ss⟩
  · simp only [neg_yes c2, if_true]
  have sp' := smm_Project (B' := 1099511627776) (by omega) p sp
  have ss' := smm_Schedule (B' := 1099511627776) (by omega) s ss
  simp only [neg_no c2, Bool.false_eq_true, if_false, to_Project _ _ sp, to_Schedule _ _ ss, some_bind', PeakUsage_spec _ _ _ _ sp', PeakUsage_impl _ _ _ _ sp', eqZ_self, notB_true, eq_Project _ _ sp', eq_Schedule _ _ ss']
theorem L_FnExactPeakUsage (x : Ty.dens H_laws_FnExactPeakUsage.ps) (h : Ty.fits H_laws_FnExactPeakUsage.ps x) : laws_FnExactPeakUsage x () = some (true, ()) := by
  obtain ⟨p, s, a, u⟩ := x
  exact plain_FnExactPeakUsage p s a u (smf_Project _ h.1) (smf_Schedule _ h.2.1)
end Go.Proofs.Ytdjajoebpdnhnaa
