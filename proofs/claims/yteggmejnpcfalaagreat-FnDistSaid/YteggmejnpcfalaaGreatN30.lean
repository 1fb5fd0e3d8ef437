/-
  The meta layer, part 30: the loops, for longer lists, that copy a list, compare a list with itself, or measure one.
-/
import Derived.Test.YteggmejnpcfalaaGreatN29
namespace Go.Abs
set_option linter.unusedVariables false
set_option linter.unusedSimpArgs false
theorem idxN {i n B:Nat} (h:i < n) (hn:n <= B) (hB:B <= 1099511627776):addZ .i64 (i:Int) 1 = ((i + 1:Nat):Int):=by rw [addZ64 (by omega) (by omega)]; omega
theorem lt_bigN {n:Nat} (h:n <= 1099511627776):n < big:=by rw [big_eq]; omega
theorem Acv (x:List UInt8):eqS x x = true:=by simp [eqS]
theorem zerosN {α:Type} {n:Nat} {z:α} (h:n <= 4294967296):zerosI (n:Int) z = some (List.replicate n z):=Yt (by rw [room_eq]; exact h)
end Go.Abs
