/-
  The meta layer, part 34: loops that mark the elements of a list one after the other, and loops that look whether the marks are held.
-/
import Derived.Test.YteggmejnpcfalaaGreatN33
namespace Go.Abs
set_option linter.unusedVariables false
set_option linter.unusedSimpArgs false
def cntS {E:Type} (cnt:E -> Nat) (l:List E):Nat:=(l.map cnt).sum
theorem getI_setI_ne {α:Type} {l:List α} {i j:Nat} {f:α -> α} (h:j ≠ i):getI (setI l (i:Int) f) (j:Int) = getI l (j:Int):=by
 rw [getI_nat,getI_nat]
 unfold setI
 rw [show ((i:Int)).toNat = i from by omega,List.getElem?_modify]
 simp [Ne.symm h]
theorem getI_setI_eq {α:Type} {l:List α} {i:Nat} {x y:α} (h:getI l (i:Int) = some y):getI (setI l (i:Int) (fun _ => x)) (i:Int) = some x:=by
 rw [getI_nat] at h ⊢
 unfold setI
 rw [show ((i:Int)).toNat = i from by omega,List.getElem?_modify,h]
 simp
theorem addP {k:Int} {c:Int} (h0:0 <= k) (hc:0 <= c) (h:k + c <= 9000000000000000000):addZ .i64 k c = k + c:=addZ64 (by omega) (by omega)
end Go.Abs
