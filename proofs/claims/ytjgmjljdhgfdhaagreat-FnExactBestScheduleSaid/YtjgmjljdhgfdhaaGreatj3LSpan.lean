/-
  Plain laws: when a schedule ends, in the program and in the reference. Condition: no list is longer than 2 to the 40.
-/
import Derived.Test.YtjgmjljdhgfdhaaGreatj3LRun
namespace Go.Proofs.YtjgmjljdhgfdhaaGreat
open Go.Abs
set_option linter.unusedVariables false
set_option linter.unusedSimpArgs false

theorem max_spec (x y : Int) (u : Unit) : spec_l02Max (x, y, u) () = some (maxI x y, ()) := by
  unfold spec_l02Max
  rw [← maxI_if]
  rcases tf (ltZ y x) with h | h <;> simp [h]
def endV (p : D_Project) (s : D_Schedule) (a : Int) : Int := match spec_l09End (p, s, a, ()) () with | some e => e.1 | none => 0
theorem endV_at {p : D_Project} {s : D_Schedule} (hp : Sm_Project 1099511627776 p) (h : formB p s = true) {i : Nat} (hi : i < p.2.1.length) : (∀ u, spec_l09End (p, s, (i : Int), u) () = some (endV p s (i : Int), ())) ∧ 1 ≤ endV p s (i : Int) ∧ endV p s (i : Int) ≤ 72 := by
  obtain ⟨x, e, md, g1, ge, gm, he, h1, h2, h3, h4, -⟩ := run_at hp h hi
  have : endV p s (i : Int) = e := by unfold endV; rw [ge]
  rw [this]
  refine ⟨ge, ?_⟩
  rw [he, addZ64 (by omega) (by omega)]
  omega
/-- the end of the last activity -/
def spanV (p : D_Project) (s : D_Schedule) : Int := (iotaI p.2.1.length).foldl (fun m a => maxI m (endV p s a)) 0
theorem iotaI_cons (n : Nat) : iotaI (n + 1) = 0 :: (List.range n).map fun (i : Nat) => ((i + 1 : Nat) : Int) := by
  unfold iotaI
  rw [List.range_succ_eq_map, List.map_cons, List.map_map]
  rfl
theorem span_from (p : D_Project) (s : D_Schedule) (hp : Sm_Project 1099511627776 p) (h : formB p s = true) : (iotaI p.2.1.length).foldl (fun m a => maxI m (endV p s a)) (-1) = spanV p s := by
  obtain ⟨n1, n2⟩ := proj_acts (proj_of_form h)
  obtain ⟨n, hn⟩ : ∃ n, p.2.1.length = n + 1 := ⟨p.2.1.length - 1, by omega⟩
  obtain ⟨-, e1, -⟩ := endV_at hp h (i := 0) (by omega)
  unfold spanV
  rw [hn, iotaI_cons, List.foldl_cons, List.foldl_cons]
  have z : ((0 : Nat) : Int) = 0 := rfl
  rw [z] at e1
  have k1 : maxI (-1) (endV p s 0) = endV p s 0 := by unfold maxI; rw [if_pos (by omega)]
  have k2 : maxI 0 (endV p s 0) = endV p s 0 := by unfold maxI; rw [if_pos (by omega)]
  rw [k1, k2]
theorem Makespan_spec (p : D_Project) (s : D_Schedule) (u : Unit) (hp : Sm_Project 1099511627776 p) : spec_Makespan (p, s, u) () = some (if formB p s = true then spanV p s else -1, ()) := by
  have hle := hp.2.1.1
  unfold spec_Makespan
  simp only [ScheduleForm_spec _ _ _ hp, some_bind']
  rcases tf (formB p s) with h | h
  · simp [h, notB]
  have l0 := fun A : Type => (fold_loop (A := A) (F := spec_Makespan_L0) (fun i n => ((i : Int), (p.2.1.length : Int), p, s, n, ())) p.2.1.length (fun _ _ => True) (fun i n => maxI n (endV p s (i : Int))) (fun n => Sum.inl (false, (p.2.1.length : Int), (p.2.1.length : Int), p, s, n, ())) hle
    (fun i n hi _ => by
      obtain ⟨ge, -⟩ := endV_at hp h hi
      refine ⟨?_, trivial⟩
      unfold spec_Makespan_L0
      simp only [lt_yes hi, if_true, ge, max_spec, some_bind', idxN hi hle (Nat.le_refl _)])
    (fun n _ => by
      unfold spec_Makespan_L0
      simp only [lt_no, Bool.false_eq_true, if_false])
    (a := -1) trivial).1
  have e0 : (((0 : Nat) : Int), (p.2.1.length : Int), p, s, (-1 : Int), ()) = ((0 : Int), (p.2.1.length : Int), p, s, (-1 : Int), ()) := rfl
  rw [e0] at l0
  have e1 := foldN_iota (fun (n x : Int) => maxI n (endV p s x)) p.2.1.length (-1)
  simp only [h, notB_true, Bool.false_eq_true, if_false, if_true, lenI_eq, l0, some_bind', e1, span_from p s hp h]
theorem Makespan_impl (p : D_Project) (s : D_Schedule) (u : Unit) (hp : Sm_Project 1099511627776 p) : impl_Makespan (p, s, u) () = some (if formB p s = true then spanV p s else -1, ()) := by
  have hle := hp.2.1.1
  unfold impl_Makespan
  simp only [ScheduleForm_impl _ _ _ hp, some_bind']
  rcases tf (formB p s) with h | h
  · simp [h, notB]
  have l0 := fun A : Type => (fold_loop (A := A) (F := impl_Makespan_L0) (fun i n => ((i : Int), (p.2.1.length : Int), p, s, n, ())) p.2.1.length (fun _ _ => True) (fun i n => maxI n (endV p s (i : Int))) (fun n => Sum.inl (false, (p.2.1.length : Int), (p.2.1.length : Int), p, s, n, ())) hle
    (fun i n hi _ => by
      obtain ⟨ge, -⟩ := endV_at hp h hi
      refine ⟨?_, trivial⟩
      unfold impl_Makespan_L0
      simp only [lt_yes hi, if_true, end_impl, ge, some_bind', idxN hi hle (Nat.le_refl _)])
    (fun n _ => by
      unfold impl_Makespan_L0
      simp only [lt_no, Bool.false_eq_true, if_false])
    (a := 0) trivial).1
  have e0 : (((0 : Nat) : Int), (p.2.1.length : Int), p, s, (0 : Int), ()) = ((0 : Int), (p.2.1.length : Int), p, s, (0 : Int), ()) := rfl
  rw [e0] at l0
  have e1 := foldN_iota (fun (n x : Int) => maxI n (endV p s x)) p.2.1.length 0
  simp only [h, notB_true, Bool.false_eq_true, if_false, if_true, lenI_eq, l0, some_bind', e1, spanV]
end Go.Proofs.YtjgmjljdhgfdhaaGreat
