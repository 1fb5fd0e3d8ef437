/-
  Plain laws: has a set a number. Condition: no list is longer than 2 to the 40.
-/
import Derived.Test.Ytmbknefcilojkaag3LProj2
import Derived.Test.YtmbknefcilojkaaN36
namespace Go.Proofs.Ytmbknefcilojkaa
open Go.Abs
set_option linter.unusedVariables false
set_option linter.unusedSimpArgs false

def hasB (l : List Int) (n : Int) : Bool := l.any fun x => eqZ x n
theorem eqZ_comm (x y : Int) : eqZ x y = eqZ y x := by
  rw [eqZ_dec, eqZ_dec]
  congr 1
  exact propext ⟨Eq.symm, Eq.symm⟩
theorem all_notB {E : Type} (q : E → Bool) (l : List E) : (l.all fun x => notB (q x)) = notB (l.any q) := by
  induction l with
  | nil => rfl
  | cons x l ih =>
    simp only [List.all_cons, List.any_cons, ih]
    cases q x <;> simp [notB]
theorem SetHas_impl (l : List Int) (n : Int) (u : Unit) (hl : l.length ≤ 1099511627776) : impl_SetHas (l, n, u) () = some (hasB l n, ()) := by
  have l0 := fun A : Type => findS (A := A) (F := slices_Index_int_int_L0) (fun i => ((i : Int), (l.length : Int), n, l, ())) (0, (l.length : Int), n, l, ()) l (fun x => eqZ x n) (Sum.inl (false, (l.length : Int), (l.length : Int), n, l, ())) (fun i => ((i : Int), ())) rfl hl
    (fun i hi => by
      unfold slices_Index_int_int_L0
      simp only [lt_yes hi, if_true, getI_lt hi, some_bind', idxN hi hl (Nat.le_refl _), eqZ_comm n]
      cases eqZ l[i] n <;> rfl)
    (by unfold slices_Index_int_int_L0; simp only [lt_no, Bool.false_eq_true, if_false])
  have e : slices_Index_int_int (l, n, ()) () = some (idxOf (fun x => eqZ x n) l, ()) := by
    unfold slices_Index_int_int idxOf
    simp only [lenI_eq, l0]
    cases l.findIdx? (fun x => eqZ x n) <;> rfl
  unfold impl_SetHas slices_Contains_int_int hasB
  simp only [e, some_bind', idxOf_any]
end Go.Proofs.Ytmbknefcilojkaa
