/-
  Plain laws: what is used at a time, for all arguments, in the program and in the reference. Condition: no list is longer than 2 to the 40.
-/
import Derived.Test.YtholdafohofboaaGreatDoore3LRun
namespace Go.Proofs.YtholdafohofboaaGreatDoor
open Go.Abs
set_option linter.unusedVariables false
set_option linter.unusedSimpArgs false

theorem RunningAt_spec (p : D_Project) (s : D_Schedule) (t : Int) (u : Unit) (hp : Sm_Project 1099511627776 p) : spec_RunningAt (p, s, t, u) () = some (if formB p s = true then runL p s t else [], ()) := by
  unfold spec_RunningAt
  simp only [ScheduleForm_spec _ _ _ hp, some_bind']
  rcases tf (formB p s) with h | h
  · simp [h, notB]
  obtain ⟨n1, n2⟩ := proj_acts (proj_of_form h)
  have l0 := fun A : Type => (fold_loop (A := A) (B := (Bool × Int × Int × D_Project × D_Schedule × Int × List Int × Unit) ⊕ Empty) (C := List Int × Unit) (F := spec_RunningAt_L0) (fun i out => ((i : Int), lenI p.2.1, p, s, t, out, ())) p.2.1.length (fun i out => out.length ≤ i) (fun i out => if runB p s t (i : Int) = true then out ++ [(i : Int)] else out) (fun out => Sum.inl (false, lenI p.2.1, lenI p.2.1, p, s, t, out, ())) (by omega)
    (fun i out hi ho => by
      obtain ⟨x, e, md, g1, ge, -, -, -, -, -, -, gr, -⟩ := run_at hp h hi
      have ha : addI out [(i : Int)] = some (out ++ [(i : Int)]) := addI_ok (by rw [room_eq]; simp; omega)
      have hl : ltZ (i : Int) (lenI p.2.1) = true := lt_yes hi
      constructor
      · unfold spec_RunningAt_L0
        simp only [hl, if_true, g1, some_bind', ge, gr]
        rcases tf (leZ x t) with h1 | h1 <;> rcases tf (ltZ t e) with h2 | h2 <;> simp [-Int.natCast_add, h1, h2, ha, ge, idxN hi (show p.2.1.length ≤ 1099511627776 by omega) (Nat.le_refl _)]
      · rw [gr]
        rcases tf (leZ x t && ltZ t e) with h1 | h1 <;> simp only [h1, if_true, Bool.false_eq_true, if_false, List.length_append, List.length_singleton] <;> omega)
    (fun out ho => by
      have hl : ltZ (p.2.1.length : Int) (lenI p.2.1) = false := lt_no _
      unfold spec_RunningAt_L0
      simp only [hl, Bool.false_eq_true, if_false]
      rfl)
    (a := []) (Nat.le_refl _)).1
  have e0 : (((0 : Nat) : Int), lenI p.2.1, p, s, t, ([] : List Int), ()) = ((0 : Int), lenI p.2.1, p, s, t, ([] : List Int), ()) := rfl
  rw [e0] at l0
  have e1 := foldN_iota (fun (out : List Int) (x : Int) => if runB p s t x = true then out ++ [x] else out) p.2.1.length []
  simp only [h, notB_true, Bool.false_eq_true, if_false, if_true, l0, some_bind', e1, foldl_filter, List.nil_append, runL]
/-- what is used at a time, for all arguments -/
def useT (p : D_Project) (s : D_Schedule) (res t : Int) : Int := if (inB res 0 (subZ .i64 (lenI p.2.2.2.1) 1) && formB p s) = true then useV p s res t else 0
theorem UsageAt_spec (p : D_Project) (s : D_Schedule) (res t : Int) (u : Unit) (hp : Sm_Project 1099511627776 p) : spec_UsageAt (p, s, res, t, u) () = some (useT p s res t, ()) := by
  unfold spec_UsageAt useT
  simp only [l01In_eq, some_bind', RunningAt_spec _ _ _ _ hp]
  rcases tf (inB res 0 (subZ .i64 (lenI p.2.2.2.1) 1)) with h1 | h1
  · simp [h1, notB]
  obtain ⟨j, rfl, hj⟩ := inB_place hp.2.2.2.1.1 h1
  have hlen := runL_length p s t
  have hle := hp.2.1.1
  rcases tf (formB p s) with h | h
  · have l0 := fun A : Type => (fold_loop (A := A) (B := (Bool × Int × Int × List Int × D_Project × D_Schedule × Int × Int × Unit) ⊕ Empty) (C := Int × Unit) (F := spec_UsageAt_L0) (fun i n => ((i : Int), lenI ([] : List Int), ([] : List Int), p, s, (j : Int), n, ())) 0 (fun _ _ => True) (fun _ n => n) (fun n => Sum.inl (false, ((0 : Nat) : Int), lenI ([] : List Int), ([] : List Int), p, s, (j : Int), n, ())) (by omega)
      (fun i n hi _ => absurd hi (by omega))
      (fun n _ => by
        have e : ltZ ((0 : Nat) : Int) (lenI ([] : List Int)) = false := rfl
        unfold spec_UsageAt_L0
        simp only [e, Bool.false_eq_true, if_false])
      (a := 0) trivial).1
    have e0 : (((0 : Nat) : Int), lenI ([] : List Int), ([] : List Int), p, s, (j : Int), (0 : Int), ()) = ((0 : Int), lenI ([] : List Int), ([] : List Int), p, s, (j : Int), (0 : Int), ()) := rfl
    rw [e0] at l0
    simp only [h1, h, notB_true, Bool.false_eq_true, if_false, Bool.and_false, l0, some_bind', foldN]
  · have l0 := fun A : Type => (fold_list (A := A) (B := (Bool × Int × Int × List Int × D_Project × D_Schedule × Int × Int × Unit) ⊕ Empty) (C := Int × Unit) (F := spec_UsageAt_L0) (fun i n => ((i : Int), lenI (runL p s t), runL p s t, p, s, (j : Int), n, ())) (runL p s t) (fun _ _ => True) (fun n a => addZ .i64 n (useOf p s (j : Int) a)) (fun n => Sum.inl (false, lenI (runL p s t), lenI (runL p s t), runL p s t, p, s, (j : Int), n, ())) (by omega)
      (fun i n hi _ => by
        obtain ⟨a, ea, ha⟩ := runL_mem (List.getElem_mem hi)
        obtain ⟨x, e, md, -, -, gm, -, -, -, -, -, -, gu⟩ := run_at hp h ha
        have hl : ltZ (i : Int) (lenI (runL p s t)) = true := lt_yes hi
        refine ⟨?_, trivial⟩
        unfold spec_UsageAt_L0
        simp only [hl, if_true, getI_lt hi, some_bind', ea, gm, gu j hj, idxN hi (show (runL p s t).length ≤ 1099511627776 by omega) (Nat.le_refl _)])
      (fun n _ => by
        have hl : ltZ ((runL p s t).length : Int) (lenI (runL p s t)) = false := lt_no _
        unfold spec_UsageAt_L0
        simp only [hl, Bool.false_eq_true, if_false]
        rfl)
      (a := 0) (s := (0, lenI (runL p s t), runL p s t, p, s, (j : Int), 0, ())) rfl trivial).1
    simp only [h1, h, notB_true, Bool.false_eq_true, if_false, if_true, Bool.and_self, l0, some_bind', useV]
end Go.Proofs.YtholdafohofboaaGreatDoor
