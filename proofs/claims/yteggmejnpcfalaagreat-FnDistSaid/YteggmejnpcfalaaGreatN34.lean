/-
  The meta layer, part 34: loops that mark the elements of a list one after the other, and loops that look whether the marks are held.
-/
import Derived.Test.YteggmejnpcfalaaGreatN33
namespace Go.Abs
set_option linter.unusedVariables false
set_option linter.unusedSimpArgs false
def cntS {E:Type} (cnt:E -> Nat) (l:List E):Nat:=(l.map cnt).sum
theorem Uy {α:Type} {l:List α} {i j:Nat} {f:α -> α} (h:j ≠ i):getI (setI l (i:Int) f) (j:Int) = getI l (j:Int):=by
 rw [Ht,Ht]
 unfold setI
 rw [show ((i:Int)).toNat = i from by omega,List.getElem?_modify]
 simp [Ne.symm h]
theorem Va {α:Type} {l:List α} {i:Nat} {x y:α} (h:getI l (i:Int) = some y):getI (setI l (i:Int) (fun _ => x)) (i:Int) = some x:=by
 rw [Ht] at h ⊢
 unfold setI
 rw [show ((i:Int)).toNat = i from by omega,List.getElem?_modify,h]
 simp
end Go.Abs
