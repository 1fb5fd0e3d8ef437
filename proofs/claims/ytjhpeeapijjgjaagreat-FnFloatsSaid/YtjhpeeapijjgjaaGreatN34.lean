/-
  The meta layer, part 34: loops that mark the elements of a list one after the other, and loops that look whether the marks are held.
-/
import Derived.Test.YtjhpeeapijjgjaaGreatN33
namespace Go.Abs
set_option linter.unusedVariables false
set_option linter.unusedSimpArgs false
def cntS {E : Type} (cnt : E → Nat) (l : List E) : Nat := (l.map cnt).sum
theorem getI_setI_ne {α : Type} {l : List α} {i j : Nat} {f : α → α} (h : j ≠ i) : getI (setI l (i : Int) f) (j : Int) = getI l (j : Int) := by
  rw [getI_nat, getI_nat]
  unfold setI
  rw [show ((i : Int)).toNat = i from by omega, List.getElem?_modify]
  simp [Ne.symm h]
theorem getI_setI_eq {α : Type} {l : List α} {i : Nat} {x y : α} (h : getI l (i : Int) = some y) : getI (setI l (i : Int) (fun _ => x)) (i : Int) = some x := by
  rw [getI_nat] at h ⊢
  unfold setI
  rw [show ((i : Int)).toNat = i from by omega, List.getElem?_modify, h]
  simp

theorem setI_setI {α : Type} {l : List α} {i : Int} {f g : α → α} : setI (setI l i f) i g = setI l i (fun x => g (f x)) := by
  unfold setI
  rw [List.modify_modify_eq]
  rfl
end Go.Abs
