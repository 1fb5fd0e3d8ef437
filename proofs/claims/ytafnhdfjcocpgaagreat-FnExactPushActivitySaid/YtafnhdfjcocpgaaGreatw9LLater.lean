/-
  Plain laws: a start turned, in the program. Condition: no list is longer than 2 to the 40.
-/
import Derived.Test.YtafnhdfjcocpgaaGreatw9LShape
namespace Go.Proofs.YtafnhdfjcocpgaaGreat
open Go.Abs
set_option linter.unusedVariables false
set_option linter.unusedSimpArgs false

theorem later_at {p : D_Project} {s : D_Schedule} (h : Shape p s) {i : Nat} {x : Int} (k : Int) (u : Unit) (hx : getI s.1 (i : Int) = some x) : impl_Schedule_later (s, (i : Int), k, u) () = some (mvS s i (addZ .i64 x k), ()) := by
  obtain ⟨-, h6⟩ := proj_acts h.ok
  have h1 := h.l1
  have h2 := h.l2
  unfold impl_Schedule_later impl_Schedule_copied slices_Clone_int_int
  simp only [add_nil s.1 (by omega), add_nil s.2.1 (by omega), some_bind', hx]
  rfl
end Go.Proofs.YtafnhdfjcocpgaaGreat
