/-
  Plain laws: schedules of a valid project whose starts may be any numbers; a start turned. Condition: no list is longer than 2 to the 40.
-/
import Derived.Test.YtjgmjljdhgfdhaaGreatj3LViol
import Derived.Test.YtjgmjljdhgfdhaaGreatN36
namespace Go.Proofs.YtjgmjljdhgfdhaaGreat
open Go.Abs
set_option linter.unusedVariables false
set_option linter.unusedSimpArgs false

/-- a schedule with a start and a mode for each activity -/
structure Shape (p : D_Project) (s : D_Schedule) : Prop where
  ok : projB p = true
  l1 : s.1.length = p.2.1.length
  l2 : s.2.1.length = p.2.1.length
  md : ∀ i, (hi : i < p.2.1.length) → ∃ (m : Nat) (md : D_Mode), getI s.2.1 (i : Int) = some (m : Int) ∧ getI p.2.1[i].2.2.1 (m : Int) = some md
theorem shape_of_form {p : D_Project} {s : D_Schedule} (hp : Sm_Project 1099511627776 p) (h : formB p s = true) : Shape p s := by
  have h' := h
  unfold formB at h'
  simp only [Bool.and_eq_true] at h'
  refine ⟨h'.1.1.1, len_of_eqZ h'.1.1.2, len_of_eqZ h'.1.2, fun i hi => ?_⟩
  obtain ⟨t, m, md, g1, g2, g3, -⟩ := form_at hp h hi
  exact ⟨m, md, g2, g3⟩
theorem Shape.at {p : D_Project} {s : D_Schedule} (h : Shape p s) {i : Nat} (hi : i < p.2.1.length) : ∃ x e, getI s.1 (i : Int) = some x ∧ ∀ u, spec_l09End (p, s, (i : Int), u) () = some (e, ()) := by
  obtain ⟨m, md, g2, g3⟩ := h.md i hi
  have hi1 : i < s.1.length := by rw [h.l1]; exact hi
  exact ⟨_, _, getI_lt hi1, fun u => end_eq u hi (getI_lt hi1) g2 g3⟩
/-- the schedule with another start -/
def mvS (s : D_Schedule) (i : Nat) (t : Int) : D_Schedule := (setI s.1 (i : Int) (fun _ => t), s.2)
theorem Shape.mv {p : D_Project} {s : D_Schedule} (h : Shape p s) (i : Nat) (t : Int) : Shape p (mvS s i t) := ⟨h.ok, by unfold mvS; rw [setI_length]; exact h.l1, h.l2, h.md⟩
theorem mvS_mvS (s : D_Schedule) (i : Nat) (x y : Int) : mvS (mvS s i x) i y = mvS s i y := by
  unfold mvS
  rw [setI_setI]
theorem mvS_self {s : D_Schedule} {i : Nat} {x : Int} (h : getI s.1 (i : Int) = some x) : mvS s i x = s := by
  unfold mvS
  have : setI s.1 (i : Int) (fun _ => x) = s.1 := by
    unfold setI
    rw [show ((i : Int)).toNat = i from by omega]
    apply List.ext_getElem?
    intro j
    rw [List.getElem?_modify]
    rw [getI_nat] at h
    by_cases e : i = j
    · subst e; simp [h]
    · simp [e]
  rw [this]
theorem mvS_at {s : D_Schedule} {i : Nat} {x t : Int} (h : getI s.1 (i : Int) = some x) : getI (mvS s i t).1 (i : Int) = some t := by
  unfold mvS
  exact getI_setI_eq h
theorem add_nil (l : List Int) (h : l.length ≤ 1000000) : addI [] l = some l := by
  have := addI_ok (x := ([] : List Int)) (y := l) (by rw [room_eq]; simp; omega)
  simpa using this
theorem l09Copy_at {p : D_Project} {s : D_Schedule} (h : Shape p s) (u : Unit) : spec_l09Copy (s, u) () = some (s, ()) := by
  obtain ⟨-, h6⟩ := proj_acts h.ok
  have h1 := h.l1
  have h2 := h.l2
  unfold spec_l09Copy
  simp only [add_nil s.1 (by omega), add_nil s.2.1 (by omega), some_bind']
/-- a valid schedule's starts are times -/
theorem start_of_ok {p : D_Project} {s : D_Schedule} (hp : Sm_Project 1099511627776 p) (h : okV p s = true) {i : Nat} (hi : i < p.2.1.length) : ∃ x, getI s.1 (i : Int) = some x ∧ 0 ≤ x ∧ x ≤ 60 := by
  obtain ⟨t, m, md, g1, g2, g3, hm, h0, h6, -⟩ := form_at hp (form_of_ok h) hi
  exact ⟨t, g1, h0, h6⟩
end Go.Proofs.YtjgmjljdhgfdhaaGreat
