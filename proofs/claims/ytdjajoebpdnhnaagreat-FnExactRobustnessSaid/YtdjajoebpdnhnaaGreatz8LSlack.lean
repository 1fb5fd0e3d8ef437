/-
  Plain laws: how far a schedule ends ahead of the deadline, in the program and in the reference. Condition: no list is longer than 2 to the 40.
-/
import Derived.Test.YtdjajoebpdnhnaaGreatz8LViol
import Derived.Test.YtdjajoebpdnhnaaGreatz8LSpan
namespace Go.Proofs.YtdjajoebpdnhnaaGreat
open Go.Abs
set_option linter.unusedVariables false
set_option linter.unusedSimpArgs false

def slackV (p : D_Project) (s : D_Schedule) : Int := if okV p s = true then subZ .i64 p.1 (spanV p s) else 0
theorem DeadlineSlack_spec (p : D_Project) (s : D_Schedule) (u : Unit) (hp : Sm_Project 1099511627776 p) : spec_DeadlineSlack (p, s, u) () = some (slackV p s, ()) := by
  unfold spec_DeadlineSlack slackV
  simp only [ScheduleOk_spec _ _ _ hp, some_bind']
  rcases tf (okV p s) with h | h
  · simp [h, notB]
  simp only [h, notB_true, Bool.false_eq_true, if_false, if_true, Makespan_spec _ _ _ hp, form_of_ok h, some_bind']
theorem DeadlineSlack_impl (p : D_Project) (s : D_Schedule) (u : Unit) (hp : Sm_Project 1099511627776 p) : impl_DeadlineSlack (p, s, u) () = some (slackV p s, ()) := by
  unfold impl_DeadlineSlack slackV
  simp only [ScheduleOk_impl _ _ _ hp, some_bind']
  rcases tf (okV p s) with h | h
  · simp [h, notB]
  simp only [h, notB_true, Bool.false_eq_true, if_false, if_true, Makespan_impl _ _ _ hp, form_of_ok h, some_bind']
end Go.Proofs.YtdjajoebpdnhnaaGreat
