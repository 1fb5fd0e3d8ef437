/-
  The meta layer, part 29: the loops that copy a list, compare a list with itself, or measure one.
-/
import Derived.Test.YteggmejnpcfalaaGreatN28
namespace Go.Abs
set_option linter.unusedVariables false
set_option linter.unusedSimpArgs false
theorem lt_yes {i n:Nat} (h:i < n):ltZ (i:Int) (n:Int) = true:=by rw [ltZ_iff]; omega
theorem lt_no (n:Nat):ltZ (n:Int) (n:Int) = false:=by rw [Bool.eq_false_iff,Ne,ltZ_iff]; omega
end Go.Abs
