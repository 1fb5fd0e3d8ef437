/-
  The meta layer, part 34: loops that mark the elements of a list one after the other, and loops that look whether the marks are held.
-/
import Derived.Test.YtjhpeeapijjgjaaGreatN33
namespace Go.Abs
set_option linter.unusedVariables false
set_option linter.unusedSimpArgs false
def cntS {E : Type} (cnt : E → Nat) (l : List E) : Nat := (l.map cnt).sum
theorem setI_const {α : Type} {l : List α} {i : Nat} {f : α → α} {x : α} (h : getI l (i : Int) = some x) : setI l (i : Int) f = setI l (i : Int) (fun _ => f x) := by
 rw [getI_nat] at h
 unfold setI
 rw [show ((i : Int)).toNat = i from by omega]
 apply List.ext_getElem?
 intro j
 rw [List.getElem?_modify, List.getElem?_modify]
 by_cases e : i = j
 ·subst e
  simp [h]
 ·simp [e]

end Go.Abs
