/-
  Plain laws: how far an activity may be moved alone, in the program and in the reference. Condition: no list is longer than 2 to the 40.
-/
import Derived.Test.YtdjajoebpdnhnaaGreatz7LShape
namespace Go.Proofs.YtdjajoebpdnhnaaGreat
open Go.Abs
set_option linter.unusedVariables false
set_option linter.unusedSimpArgs false

theorem FreeFloat_both (p : D_Project) (s : D_Schedule) (a : Int) (hp : Sm_Project 1099511627776 p) : ∃ v, (∀ u, spec_FreeFloat (p, s, a, u) () = some (v, ())) ∧ ∀ u, impl_FreeFloat (p, s, a, u) () = some (v, ()) := by
  rcases tf (okV p s) with h | h
  · refine ⟨0, fun u => ?_, fun u => ?_⟩
    · unfold spec_FreeFloat
      simp [ScheduleOk_spec _ _ _ hp, h, notB]
    · unfold impl_FreeFloat
      simp [ScheduleOk_impl _ _ _ hp, h, notB]
  rcases tf (inB a 0 (subZ .i64 (lenI p.2.1) 1)) with h1 | h1
  · refine ⟨0, fun u => ?_, fun u => ?_⟩
    · unfold spec_FreeFloat
      simp [ScheduleOk_spec _ _ _ hp, l01In_eq, h, h1, notB]
    · unfold impl_FreeFloat
      simp [ScheduleOk_impl _ _ _ hp, hasActivity_eq, h, h1, notB]
  obtain ⟨i, rfl, hi⟩ := inB_place hp.2.1.1 h1
  have hs := shape_of_form hp (form_of_ok h)
  obtain ⟨x, hx, x0, x6⟩ := start_of_ok hp h hi
  obtain ⟨o, o', l1, l2, ⟨v, hr⟩⟩ := any_loops (F := impl_FreeFloat_L0) (G := spec_FreeFloat_L0) (α := Unit) (fun k _ => (p, s, (i : Int), (k : Int), ())) (fun k _ => ((k : Int), (i : Int), p, mvS s i (x + (k : Int)), ())) 60 (fun k _ => x + (k : Int) ≤ 60)
    (fun o o' => ∃ v : Int, o = .inl (.inl (false, p, s, (i : Int), v, ())) ∧ (o' = .inr (v, ()) ∨ (v = 60 ∧ ∃ b, o' = .inl (.inl b)))) (by omega)
    (fun k _ hk hI => by
      have a1 : addZ .i64 (k : Int) 1 = ((k + 1 : Nat) : Int) := by rw [addZ64 (by omega) (by omega)]; omega
      have a2 : addZ .i64 x ((k + 1 : Nat) : Int) = x + ((k + 1 : Nat) : Int) := addZ64 (by omega) (by omega)
      have a3 : addZ .i64 (x + (k : Int)) 1 = x + ((k + 1 : Nat) : Int) := by rw [addZ64 (by omega) (by omega)]; omega
      have g1 := mvS_at (t := x + (k : Int)) hx
      have g2 : mvS (mvS s i (x + (k : Int))) i (x + ((k + 1 : Nat) : Int)) = mvS s i (x + ((k + 1 : Nat) : Int)) := mvS_mvS s i _ _
      unfold mvS at g2
      rcases tf (okV p (mvS s i (x + ((k + 1 : Nat) : Int)))) with h2 | h2
      · refine .inr ⟨.inl (.inl (false, p, s, (i : Int), (k : Int), ())), ?_⟩
        rcases Nat.lt_or_ge k 60 with hk' | hk'
        · have hl : ltZ (k : Int) 60 = true := by rw [ltZ_iff]; omega
          refine ⟨.inr ((k : Int), ()), ?_, ?_, _, rfl, .inl rfl⟩
          · unfold impl_FreeFloat_L0
            simp only [a1, later_at hs _ _ hx, a2, some_bind', ScheduleOk_impl _ _ _ hp, h2, Bool.false_eq_true, if_false]
            rfl
          · have h3 := h2
            unfold mvS at h3
            unfold spec_FreeFloat_L0
            simp only [hl, if_true, g1, some_bind', a3]
            simp only [mvS] at *
            simp only [g2, ScheduleOk_spec _ _ _ hp, h2, notB_false, if_true, some_bind']
            rfl
        · have hk6 : k = 60 := by omega
          subst hk6
          have hl : ltZ ((60 : Nat) : Int) 60 = false := rfl
          refine ⟨.inl (.inl (false, ((60 : Nat) : Int), (i : Int), p, mvS s i (x + ((60 : Nat) : Int)), ())), ?_, ?_, _, rfl, .inr ⟨rfl, _, rfl⟩⟩
          · unfold impl_FreeFloat_L0
            simp only [a1, later_at hs _ _ hx, a2, some_bind', ScheduleOk_impl _ _ _ hp, h2, Bool.false_eq_true, if_false]
            rfl
          · unfold spec_FreeFloat_L0
            simp only [hl, Bool.false_eq_true, if_false]
            rfl
      · obtain ⟨y, hy, y0, y6⟩ := start_of_ok hp h2 hi
        rw [mvS_at hx] at hy
        cases hy
        have hk' : k < 60 := by omega
        have hl : ltZ (k : Int) 60 = true := by rw [ltZ_iff]; omega
        refine .inl ⟨(), hk', ?_, ?_, y6⟩
        · unfold impl_FreeFloat_L0
          simp only [a1, later_at hs _ _ hx, a2, some_bind', ScheduleOk_impl _ _ _ hp, h2, if_true]
        · unfold spec_FreeFloat_L0
          simp only [hl, if_true, g1, some_bind', a3, a1]
          simp only [mvS] at *
          simp only [g2, ScheduleOk_spec _ _ _ hp, h2, notB_true, Bool.false_eq_true, if_false, some_bind'])
    (a := ()) (s := (p, s, (i : Int), 0, ())) (t := (0, (i : Int), p, s, ())) rfl (by show _ = ((0 : Int), (i : Int), p, mvS s i (x + 0), ()); rw [Int.add_zero, mvS_self hx]) (by omega)
  obtain ⟨rfl, ho⟩ := hr
  refine ⟨v, fun u => ?_, fun u => ?_⟩
  · unfold spec_FreeFloat
    rcases ho with rfl | ⟨rfl, b, rfl⟩
    · simp only [ScheduleOk_spec _ _ _ hp, h, l01In_eq, h1, notB_true, Bool.false_eq_true, if_false, some_bind', l09Copy_at hs, l2, fin]
    · simp only [ScheduleOk_spec _ _ _ hp, h, l01In_eq, h1, notB_true, Bool.false_eq_true, if_false, some_bind', l09Copy_at hs, l2, fin]
  · unfold impl_FreeFloat
    simp only [ScheduleOk_impl _ _ _ hp, h, hasActivity_eq, h1, notB_true, Bool.false_eq_true, if_false, some_bind', l1, fin]
end Go.Proofs.YtdjajoebpdnhnaaGreat
