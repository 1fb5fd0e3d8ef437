/-
  The meta layer, part 32: loops over two lists of one length; chains of conditions.
-/
import Derived.Test.YteggmejnpcfalaaGreatN31
namespace Go.Abs
set_option linter.unusedVariables false
set_option linter.unusedSimpArgs false
def eqLB {E:Type} (q:E -> E -> Bool) (x y:List E):Bool:=decide (x.length = y.length) && (List.range x.length).all fun i => match x[i]?,y[i]? with | some a,some b => q a b | _,_ => true
theorem eqZ_ne {x y:Int} (h:¬ x = y):eqZ x y = false:=by simp [eqZ,h]
theorem V5 {m n:Nat} (h:¬ m = n):eqZ (m:Int) (n:Int) = false:=eqZ_ne fun e => h (by exact_mod_cast e)
end Go.Abs
