/-
  Plain laws: how far an activity may be pushed, in the program and in the reference. Condition: no list is longer than 2 to the 40.
-/
import Derived.Test.YtdjajoebpdnhnaaGreatz8LPush
import Derived.Test.YtdjajoebpdnhnaaGreatz8LSlack
namespace Go.Proofs.YtdjajoebpdnhnaaGreat
open Go.Abs
set_option linter.unusedVariables false
set_option linter.unusedSimpArgs false

theorem spanV_ge (p : D_Project) (s : D_Schedule) : 0 ≤ spanV p s := by
  unfold spanV
  have : ∀ (l : List Int) (m : Int), 0 ≤ m → 0 ≤ l.foldl (fun m a => maxI m (endV p s a)) m := by
    intro l
    induction l with
    | nil => intro m h; exact h
    | cons x l ih =>
      intro m h
      rw [List.foldl_cons]
      refine ih _ ?_
      unfold maxI
      split <;> omega
  exact this _ 0 (Int.le_refl _)
theorem spanV_le {p : D_Project} {s : D_Schedule} (hp : Sm_Project 1099511627776 p) (h : formB p s = true) : spanV p s ≤ 72 := by
  unfold spanV
  have : ∀ (l : List Int) (m : Int), (∀ a ∈ l, endV p s a ≤ 72) → m ≤ 72 → l.foldl (fun m a => maxI m (endV p s a)) m ≤ 72 := by
    intro l
    induction l with
    | nil => intro m _ h; exact h
    | cons x l ih =>
      intro m hl h
      rw [List.foldl_cons]
      refine ih _ (fun a ha => hl a (by simp [ha])) ?_
      have := hl x (by simp)
      unfold maxI
      split <;> omega
  refine this _ 0 (fun a ha => ?_) (by omega)
  obtain ⟨i, rfl, hi⟩ := iotaI_mem ha
  exact (endV_at hp h hi).2.2
theorem slackV_le (p : D_Project) (s : D_Schedule) (hp : Sm_Project 1099511627776 p) : slackV p s ≤ 60 := by
  unfold slackV
  split
  · rename_i h
    have h0 := proj_dead (proj_of_form (form_of_ok h))
    have h1 := spanV_ge p s
    have h2 := spanV_le hp (form_of_ok h)
    rw [subZ64 (by omega) (by omega)]
    omega
  · omega
theorem TotalFloat_both (p : D_Project) (s : D_Schedule) (a : Int) (hp : Sm_Project 1099511627776 p) : ∃ v, 0 ≤ v ∧ (∀ u, spec_TotalFloat (p, s, a, u) () = some (v, ())) ∧ ∀ u, impl_TotalFloat (p, s, a, u) () = some (v, ()) := by
  have h60 := slackV_le p s hp
  obtain ⟨o, o', l1, l2, v, hv, ho, ho', hz⟩ := any_loops (F := impl_TotalFloat_L0) (G := spec_TotalFloat_L0) (α := Unit) (fun k _ => (p, s, a, (k : Int), ())) (fun k _ => (((k + 1 : Nat) : Int), p, s, a, (k : Int), ())) 60 (fun k _ => inB a 0 (subZ .i64 (lenI p.2.1) 1) = false → k = 0)
    (fun o o' => ∃ v : Int, 0 ≤ v ∧ ((∃ b, o = .inl (.inl (b, p, s, a, v, ()))) ∨ ∃ b, o = .inl (.inr (.inl (b, v, p, s, a, ())))) ∧ ((∃ b k', o' = .inl (.inl (b, k', p, s, a, v, ()))) ∨ ∃ b k', o' = .inl (.inr (.inl (b, v, k', p, s, a, ())))) ∧ (inB a 0 (subZ .i64 (lenI p.2.1) 1) = false → v = 0)) (by omega)
    (fun k _ hk hI => by
      have a1 : addZ .i64 (k : Int) 1 = ((k + 1 : Nat) : Int) := by rw [addZ64 (by omega) (by omega)]; omega
      have a2 : addZ .i64 ((k + 1 : Nat) : Int) 1 = ((k + 1 + 1 : Nat) : Int) := by rw [addZ64 (by omega) (by omega)]; omega
      have hsame : leZ ((k + 1 : Nat) : Int) (slackV p s) = ltZ (k : Int) (slackV p s) := by
        rw [Bool.eq_iff_iff, leZ_iff, ltZ_iff]; omega
      rcases tf (ltZ (k : Int) (slackV p s)) with hl | hl
      · refine .inr ⟨.inl (.inl (false, p, s, a, (k : Int), ())), .inl (.inl (false, ((k + 1 : Nat) : Int), p, s, a, (k : Int), ())), ?_, ?_, (k : Int), by omega, .inl ⟨_, rfl⟩, .inl ⟨_, _, rfl⟩, fun h => by rw [hI h]; rfl⟩
        · unfold impl_TotalFloat_L0
          simp only [DeadlineSlack_impl _ _ _ hp, hl, some_bind', Bool.false_eq_true, if_false]
          rfl
        · unfold spec_TotalFloat_L0
          simp only [DeadlineSlack_spec _ _ _ hp, hsame, hl, some_bind', Bool.false_eq_true, if_false]
          rfl
      · obtain ⟨s', b, -, -, hb, e1, e2⟩ := PushActivity_both p s a ((k + 1 : Nat) : Int) hp
        rcases tf b with rfl | rfl
        · refine .inr ⟨.inl (.inr (.inl (true, (k : Int), p, s, a, ()))), .inl (.inr (.inl (true, (k : Int), ((k + 1 : Nat) : Int), p, s, a, ()))), ?_, ?_, (k : Int), by omega, .inr ⟨_, rfl⟩, .inr ⟨_, _, rfl⟩, fun h => by rw [hI h]; rfl⟩
          · unfold impl_TotalFloat_L0
            simp only [DeadlineSlack_impl _ _ _ hp, hl, some_bind', if_true, a1, e2, notB_false]
            rfl
          · unfold spec_TotalFloat_L0
            simp only [DeadlineSlack_spec _ _ _ hp, hsame, hl, some_bind', if_true, e1, notB_false]
            rfl
        · have hk' : k < 60 := by rw [ltZ_iff] at hl; omega
          refine .inl ⟨(), hk', ?_, ?_, fun h => by cases hb h⟩
          · unfold impl_TotalFloat_L0
            simp only [DeadlineSlack_impl _ _ _ hp, hl, some_bind', if_true, a1, e2, notB_true, Bool.false_eq_true, if_false]
          · unfold spec_TotalFloat_L0
            simp only [DeadlineSlack_spec _ _ _ hp, hsame, hl, some_bind', if_true, a2, e1, notB_true, Bool.false_eq_true, if_false])
    (a := ()) (s := (p, s, a, 0, ())) (t := (1, p, s, a, 0, ())) rfl rfl (fun _ => rfl)
  refine ⟨v, hv, fun u => ?_, fun u => ?_⟩
  · unfold spec_TotalFloat
    rcases tf (inB a 0 (subZ .i64 (lenI p.2.1) 1)) with h | h
    · rw [hz h]
      simp [l01In_eq, h, notB]
    · rcases ho' with ⟨b, k', rfl⟩ | ⟨b, k', rfl⟩ <;> simp only [l01In_eq, h, notB_true, Bool.false_eq_true, if_false, some_bind', l2, fin]
  · unfold impl_TotalFloat
    rcases ho with ⟨b, rfl⟩ | ⟨b, rfl⟩ <;> simp only [some_bind', l1, fin]
end Go.Proofs.YtdjajoebpdnhnaaGreat
