/-
  Plain laws: does a domain contain a schedule, in the program and in the reference? Condition: no list is longer than 2 to the 40.
-/
import Derived.Test.YtmbknefcilojkaaGreatz3LSetM
namespace Go.Proofs.YtmbknefcilojkaaGreat
open Go.Abs
set_option linter.unusedVariables false
set_option linter.unusedSimpArgs false

theorem len_eqC {α β : Type} {x : List α} {y : List β} (h : eqZ (lenI x) (lenI y) = true) : x.length = y.length := by
  rw [eqZ_dec, decide_eq_true_eq] at h
  exact Int.ofNat.inj h
end Go.Proofs.YtmbknefcilojkaaGreat
