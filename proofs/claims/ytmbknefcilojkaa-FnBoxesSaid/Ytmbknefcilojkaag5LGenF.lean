/-
  Plain laws: a schedule that is drawn is of the right form. No condition.
-/
import Derived.Test.Ytmbknefcilojkaag5LGenA
import Derived.Test.Ytmbknefcilojkaag5LForm
namespace Go.Proofs.Ytmbknefcilojkaa
open Go.Abs
set_option linter.unusedVariables false
set_option linter.unusedSimpArgs false

theorem GenS.form {p : D_Project} {st md : List Int} (hp : GenP 6 p) (h : GenS p.2.1 p.2.1.length st md) : formB p (st, (md, ())) = true := by
  unfold formB
  simp only [Bool.and_eq_true, List.all_eq_true, List.mem_range]
  refine ⟨⟨⟨hp.ok (Nat.le_refl _), ?_⟩, ?_⟩, fun i hi => ?_⟩
  · rw [lenI_eq, lenI_eq, h.s1]; exact eqZ_self _
  · rw [lenI_eq, lenI_eq, h.m1]; exact eqZ_self _
  · have h1 : i < st.length := by rw [h.s1]; exact hi
    have h2 : i < md.length := by rw [h.m1]; exact hi
    have hm := h.m i h2 hi
    have hs := h.s st[i] (List.getElem_mem h1)
    have hl := (hp.a i hi).ml
    unfold formI
    simp only [List.getElem?_eq_getElem hi, List.getElem?_eq_getElem h1, List.getElem?_eq_getElem h2, Bool.and_eq_true, lenI_eq]
    refine ⟨inB_iff.2 (by omega), inB_iff.2 ?_⟩
    rw [subZ64 (by omega) (by omega)]
    omega
end Go.Proofs.Ytmbknefcilojkaa
