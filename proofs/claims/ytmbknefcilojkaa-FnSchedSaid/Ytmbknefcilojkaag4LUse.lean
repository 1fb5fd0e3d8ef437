/-
  Plain laws: what is used at a time, for all arguments, in the program and in the reference. Condition: no list is longer than 2 to the 40.
-/
import Derived.Test.Ytmbknefcilojkaag4LRun
namespace Go.Proofs.Ytmbknefcilojkaa
open Go.Abs
set_option linter.unusedVariables false
set_option linter.unusedSimpArgs false

/-- what is used at a time, for all arguments -/
def useT (p : D_Project) (s : D_Schedule) (res t : Int) : Int := if (inB res 0 (subZ .i64 (lenI p.2.2.2.1) 1) && formB p s) = true then useV p s res t else 0
end Go.Proofs.Ytmbknefcilojkaa
