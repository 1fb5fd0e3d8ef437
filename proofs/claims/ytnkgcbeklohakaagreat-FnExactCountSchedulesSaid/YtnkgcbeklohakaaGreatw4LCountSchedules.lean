/-
  Plain law: for all data within the bounds of the machine the law FnExactCountSchedules returns true.
-/
import Derived.Test.YtnkgcbeklohakaaGreatw4LSched
import Derived.Test.YtnkgcbeklohakaaGreatw4LContains
namespace Go.Proofs.YtnkgcbeklohakaaGreat
open Go.Abs
set_option linter.unusedVariables false
set_option linter.unusedSimpArgs false

theorem CountSchedules_both (p : D_Project) (b : D_Domain) (m : Int) (hp : Sm_Project 1099511627776 p) (hb : Sm_Domain 1099511627776 b) : ∃ v, (∀ u, spec_CountSchedules (p, b, m, u) () = some (v, ())) ∧ ∀ u, impl_CountSchedules (p, b, m, u) () = some (v, ()) := by
  obtain ⟨w, hw, hws, f1, f2⟩ := AllSchedules_both p m hp
  obtain ⟨o, o', l1, l2, v, rfl, rfl⟩ := any_loops (F := spec_CountSchedules_L0) (G := impl_CountSchedules_L0) (fun j (n : Int) => ((j : Int), (w.length : Int), w, b, n, ())) (fun j n => ((j : Int), (w.length : Int), w, b, n, ())) w.length (fun _ _ => True)
    (fun o o' => ∃ v : Int, o = .inl (.inl (false, (w.length : Int), (w.length : Int), w, b, v, ())) ∧ o' = .inl (.inl (false, (w.length : Int), (w.length : Int), w, b, v, ()))) (by omega)
    (fun j n hj _ => by
      by_cases hj' : j < w.length
      · have hl := (hws _ (List.getElem_mem hj')).1
        have k1 := fun u => Contains_spec b w[j] u hb (by omega)
        have k2 := fun u => Contains_impl b w[j] u hb (by omega)
        refine .inl ⟨if conB b w[j] = true then addZ .i64 n 1 else n, hj', ?_, ?_, trivial⟩
        · unfold spec_CountSchedules_L0
          simp only [lt_yes hj', if_true, getI_lt hj', some_bind', k1]
          rcases tf (conB b w[j]) with q | q <;> simp [-Int.natCast_add, q, idxN hj' (show w.length ≤ 1099511627776 by omega) (Nat.le_refl _)]
        · unfold impl_CountSchedules_L0
          simp only [lt_yes hj', if_true, getI_lt hj', some_bind', k2]
          rcases tf (conB b w[j]) with q | q <;> simp [-Int.natCast_add, q, idxN hj' (show w.length ≤ 1099511627776 by omega) (Nat.le_refl _)]
      · obtain rfl : j = w.length := by omega
        refine .inr ⟨_, _, ?_, ?_, n, rfl, rfl⟩
        · unfold spec_CountSchedules_L0
          simp only [lt_no, Bool.false_eq_true, if_false]
          rfl
        · unfold impl_CountSchedules_L0
          simp only [lt_no, Bool.false_eq_true, if_false]
          rfl)
    (a := 0) (s := (0, (w.length : Int), w, b, 0, ())) (t := (0, (w.length : Int), w, b, 0, ())) rfl rfl trivial
  refine ⟨v, fun u => ?_, fun u => ?_⟩
  · unfold spec_CountSchedules
    simp only [f1, some_bind', lenI_eq, l1, fin]
  · unfold impl_CountSchedules
    simp only [f2, some_bind', lenI_eq, l2, fin]
theorem plain_FnExactCountSchedules (p : D_Project) (b : D_Domain) (m : Int) (u : Unit) (hp : Sm_Project maxLen p) (hb : Sm_Domain maxLen b) : laws_FnExactCountSchedules (p, b, m, u) () = some (true, ()) := by
  unfold laws_FnExactCountSchedules
  obtain ⟨r1, e1, c1⟩ := sz_Project p 1048576 () (by omega) (by omega) hp
  simp only [e1, some_bind']
  rcases c1 with c1 | ⟨c1, d1, sp⟩
  · simp only [neg_yes c1, if_true]
  simp only [neg_no c1, Bool.false_eq_true, if_false]
  obtain ⟨r2, e2, c2⟩ := sz_Domain b r1 () c1 (by omega) hb
  simp only [e2, some_bind']
  rcases c2 with c2 | ⟨c2, d2, ss⟩
  · simp only [neg_yes c2, if_true]
  have sp' := smm_Project (B' := 1099511627776) (by omega) p sp
  have ss' := smm_Domain (B' := 1099511627776) (by omega) b ss
  obtain ⟨v, f1, f2⟩ := CountSchedules_both p b m sp' ss'
  simp only [neg_no c2, Bool.false_eq_true, if_false, to_Project _ _ sp, to_Domain _ _ ss, some_bind', f1, f2, eqZ_self, notB_true, eq_Project _ _ sp', eq_Domain _ _ ss']
theorem L_FnExactCountSchedules (x : Ty.dens H_laws_FnExactCountSchedules.ps) (h : Ty.fits H_laws_FnExactCountSchedules.ps x) : laws_FnExactCountSchedules x () = some (true, ()) := by
  obtain ⟨p, b, m, u⟩ := x
  exact plain_FnExactCountSchedules p b m u (smf_Project _ h.1) (smf_Domain _ h.2.1)
end Go.Proofs.YtnkgcbeklohakaaGreat
