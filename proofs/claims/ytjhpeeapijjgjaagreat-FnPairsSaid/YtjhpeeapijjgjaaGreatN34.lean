/-
  The meta layer, part 34: loops that mark the elements of a list one after the other, and loops that look whether the marks are held.
-/
import Derived.Test.YtjhpeeapijjgjaaGreatN33
namespace Go.Abs
set_option linter.unusedVariables false
set_option linter.unusedSimpArgs false
def cntS {E : Type} (cnt : E → Nat) (l : List E) : Nat := (l.map cnt).sum
theorem getI_setI_eq {α : Type} {l : List α} {i : Nat} {x y : α} (h : getI l (i : Int) = some y) : getI (setI l (i : Int) (fun _ => x)) (i : Int) = some x := by
  rw [getI_nat] at h ⊢
  unfold setI
  rw [show ((i : Int)).toNat = i from by omega, List.getElem?_modify, h]
  simp

end Go.Abs
