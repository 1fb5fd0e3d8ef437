/-
  Plain laws: what is pushed behind a link that does not hold; an activity pushed with all that stands behind it: in the program and in the reference. Condition: no list is longer than 2 to the 40.
-/
import Derived.Test.YtafnhdfjcocpgaaGreatw9LLater
namespace Go.Proofs.YtafnhdfjcocpgaaGreat
open Go.Abs
set_option linter.unusedVariables false
set_option linter.unusedSimpArgs false

theorem push_both (p : D_Project) (s : D_Schedule) (hp : Sm_Project 1099511627776 p) (hs : Shape p s) : ∃ b s', Shape p s' ∧ (∀ u, spec_l30Fix (p, s, u) () = some (b, s')) ∧ ∀ u, impl_Project_push (p, s, u) () = some (b, s') := by
  obtain ⟨-, -, hk12⟩ := proj_sizes hs.ok
  have hk : p.2.2.1.length ≤ 1099511627776 := by omega
  have z : eqZ 1 1 = true := rfl
  obtain ⟨o, o', l1, l2, hr⟩ := any_loops (F := impl_Project_push_L0) (G := spec_l30Fix_L0) (α := Unit) (fun i _ => ((i : Int), (p.2.2.1.length : Int), p.2.2.1, p, [], s, ())) (fun i _ => ((i : Int), (p.2.2.1.length : Int), p.2.2.1, p, [], s, ())) p.2.2.1.length (fun _ _ => True)
    (fun o o' => (∃ i, o = .inl (.inl (false, i, (p.2.2.1.length : Int), p.2.2.1, p, [], s, ())) ∧ o' = .inl (.inl (false, i, (p.2.2.1.length : Int), p.2.2.1, p, [], s, ()))) ∨ ∃ s', Shape p s' ∧ o = .inr (true, s') ∧ o' = .inr (true, s')) hk
    (fun i _ hi _ => by
      by_cases hi' : i < p.2.2.1.length
      · obtain ⟨f, t, ef, et, hf, ht, -⟩ := link_at hp hs.ok hi'
        obtain ⟨x, e, g1, ge⟩ := hs.at hf
        obtain ⟨y, e', g1', ge'⟩ := hs.at ht
        rcases tf p.2.2.1[i].2.2.1 with hb | hb
        · rcases tf (leZ (addZ .i64 x p.2.2.1[i].2.2.2.1) y) with hq | hq
          · have hq' : ltZ y (addZ .i64 x p.2.2.1[i].2.2.2.1) = true := by
              rw [ltZ_iff]; rw [Bool.eq_false_iff, Ne, leZ_iff] at hq; omega
            refine .inr ⟨.inr (true, mvS s t (addZ .i64 x p.2.2.1[i].2.2.2.1)), .inr (true, mvS s t (addZ .i64 x p.2.2.1[i].2.2.2.1)), ?_, ?_, .inr ⟨_, hs.mv t _, rfl, rfl⟩⟩
            · unfold impl_Project_push_L0 impl_Project_linkHolds
              simp only [lt_yes hi', if_true, getI_lt hi', some_bind', ef, et, g1, g1', hb, Bool.false_eq_true, if_false, hq, List.nil_append, List.headD_cons]
              rfl
            · unfold spec_l30Fix_L0 spec_l10Fails
              simp only [lt_yes hi', z, if_true, getI_lt hi', some_bind', ef, et, g1, g1', hb, Bool.false_eq_true, if_false, hq', notB_true, List.nil_append, List.headD_cons]
              rfl
          · have hq' : ltZ y (addZ .i64 x p.2.2.1[i].2.2.2.1) = false := by
              rw [Bool.eq_false_iff, Ne, ltZ_iff]; rw [leZ_iff] at hq; omega
            refine .inl ⟨(), hi', ?_, ?_, trivial⟩
            · unfold impl_Project_push_L0 impl_Project_linkHolds
              simp only [lt_yes hi', if_true, getI_lt hi', some_bind', ef, et, g1, g1', hb, Bool.false_eq_true, if_false, hq, idxN hi' hk (Nat.le_refl _)]
            · unfold spec_l30Fix_L0 spec_l10Fails
              simp only [lt_yes hi', z, if_true, getI_lt hi', some_bind', ef, et, g1, g1', hb, Bool.false_eq_true, if_false, hq', notB_false, idxN hi' hk (Nat.le_refl _)]
        · rcases tf (leZ (addZ .i64 e p.2.2.1[i].2.2.2.1) y) with hq | hq
          · have hq' : ltZ y (addZ .i64 e p.2.2.1[i].2.2.2.1) = true := by
              rw [ltZ_iff]; rw [Bool.eq_false_iff, Ne, leZ_iff] at hq; omega
            refine .inr ⟨.inr (true, mvS s t (addZ .i64 e p.2.2.1[i].2.2.2.1)), .inr (true, mvS s t (addZ .i64 e p.2.2.1[i].2.2.2.1)), ?_, ?_, .inr ⟨_, hs.mv t _, rfl, rfl⟩⟩
            · unfold impl_Project_push_L0 impl_Project_linkHolds
              simp only [lt_yes hi', if_true, getI_lt hi', some_bind', end_impl, ef, et, g1, g1', ge, hb, Bool.false_eq_true, if_false, hq, List.nil_append, List.headD_cons]
              rfl
            · unfold spec_l30Fix_L0 spec_l10Fails
              simp only [lt_yes hi', z, if_true, getI_lt hi', some_bind', ef, et, g1, g1', ge, hb, Bool.false_eq_true, if_false, hq', notB_true, List.nil_append, List.headD_cons]
              rfl
          · have hq' : ltZ y (addZ .i64 e p.2.2.1[i].2.2.2.1) = false := by
              rw [Bool.eq_false_iff, Ne, ltZ_iff]; rw [leZ_iff] at hq; omega
            refine .inl ⟨(), hi', ?_, ?_, trivial⟩
            · unfold impl_Project_push_L0 impl_Project_linkHolds
              simp only [lt_yes hi', if_true, getI_lt hi', some_bind', end_impl, ef, et, g1, g1', ge, hb, hq, idxN hi' hk (Nat.le_refl _)]
            · unfold spec_l30Fix_L0 spec_l10Fails
              simp only [lt_yes hi', z, if_true, getI_lt hi', some_bind', ef, et, g1, g1', ge, hb, hq', notB_false, idxN hi' hk (Nat.le_refl _)]
      · obtain rfl : i = p.2.2.1.length := by omega
        refine .inr ⟨.inl (.inl (false, (p.2.2.1.length : Int), (p.2.2.1.length : Int), p.2.2.1, p, [], s, ())), .inl (.inl (false, (p.2.2.1.length : Int), (p.2.2.1.length : Int), p.2.2.1, p, [], s, ())), ?_, ?_, .inl ⟨_, rfl, rfl⟩⟩
        · unfold impl_Project_push_L0
          simp only [lt_no, Bool.false_eq_true, if_false]
          rfl
        · unfold spec_l30Fix_L0
          simp only [lt_no, Bool.false_eq_true, if_false]
          rfl)
    (a := ()) (s := (0, (p.2.2.1.length : Int), p.2.2.1, p, [], s, ())) (t := (0, (p.2.2.1.length : Int), p.2.2.1, p, [], s, ())) rfl rfl trivial
  rcases hr with ⟨i, rfl, rfl⟩ | ⟨s', hs', rfl, rfl⟩
  · refine ⟨false, s, hs, fun u => ?_, fun u => ?_⟩
    · unfold spec_l30Fix
      simp only [lenI_eq, l2, fin, some_bind']
    · unfold impl_Project_push
      simp only [lenI_eq, l1, fin, some_bind']
  · refine ⟨true, s', hs', fun u => ?_, fun u => ?_⟩
    · unfold spec_l30Fix
      simp only [lenI_eq, l2, fin, some_bind']
    · unfold impl_Project_push
      simp only [lenI_eq, l1, fin, some_bind']
theorem PushActivity_both (p : D_Project) (s : D_Schedule) (a k : Int) (hp : Sm_Project 1099511627776 p) : ∃ (s' : D_Schedule) (b : Bool), s'.1.length ≤ 6 ∧ s'.2.1.length ≤ 6 ∧ (inB a 0 (subZ .i64 (lenI p.2.1) 1) = false → b = false) ∧ (∀ u, spec_PushActivity (p, s, a, k, u) () = some ((s', b, ()), ())) ∧ ∀ u, impl_PushActivity (p, s, a, k, u) () = some ((s', b, ()), ()) := by
  rcases tf (okV p s) with h | h
  · refine ⟨([], [], ()), false, by simp, by simp, fun _ => rfl, fun u => ?_, fun u => ?_⟩
    · unfold spec_PushActivity
      simp [ScheduleOk_spec _ _ _ hp, h, notB]
    · unfold impl_PushActivity
      simp [ScheduleOk_impl _ _ _ hp, h, notB]
  rcases tf (inB a 0 (subZ .i64 (lenI p.2.1) 1)) with h1 | h1
  · refine ⟨([], [], ()), false, by simp, by simp, fun _ => rfl, fun u => ?_, fun u => ?_⟩
    · unfold spec_PushActivity
      simp [ScheduleOk_spec _ _ _ hp, l01In_eq, h, h1, notB]
    · unfold impl_PushActivity
      simp [ScheduleOk_impl _ _ _ hp, hasActivity_eq, h, h1, notB]
  rcases tf (inB k 0 60) with h2 | h2
  · refine ⟨([], [], ()), false, by simp, by simp, fun _ => rfl, fun u => ?_, fun u => ?_⟩
    · unfold spec_PushActivity
      simp [ScheduleOk_spec _ _ _ hp, l01In_eq, h, h1, h2, notB]
    · unfold impl_PushActivity
      simp [ScheduleOk_impl _ _ _ hp, hasActivity_eq, isTime_eq, h, h1, h2, notB]
  obtain ⟨i, rfl, hi⟩ := inB_place hp.2.1.1 h1
  have hs := shape_of_form hp (form_of_ok h)
  obtain ⟨-, h6⟩ := proj_acts hs.ok
  obtain ⟨x, hx, -⟩ := start_of_ok hp h hi
  obtain ⟨o, o', l1, l2, s', hs', n, rfl, rfl⟩ := any_loops (F := impl_PushActivity_L0) (G := spec_PushActivity_L0) (fun n s' => ((n : Int), p, s', ([], [], ()), ())) (fun n s' => ((n : Int), p, s', ([], [], ()), ())) 40 (fun _ s' => Shape p s')
    (fun o o' => ∃ s', Shape p s' ∧ ∃ n, o = .inl (.inl (false, n, p, s', ([], [], ()), ())) ∧ o' = .inl (.inl (false, n, p, s', ([], [], ()), ()))) (by omega)
    (fun n s1 hn hs1 => by
      rcases Nat.lt_or_ge n 40 with hn' | hn'
      · have hl : ltZ (n : Int) 40 = true := by rw [ltZ_iff]; omega
        have an : addZ .i64 (n : Int) 1 = ((n + 1 : Nat) : Int) := by rw [addZ64 (by omega) (by omega)]; omega
        obtain ⟨b, s2, hs2, e1, e2⟩ := push_both p s1 hp hs1
        rcases tf b with rfl | rfl
        · refine .inr ⟨.inl (.inl (false, (n : Int), p, s2, ([], [], ()), ())), .inl (.inl (false, (n : Int), p, s2, ([], [], ()), ())), ?_, ?_, s2, hs2, _, rfl, rfl⟩
          · unfold impl_PushActivity_L0
            simp only [hl, if_true, e2, some_bind', Bool.false_eq_true, if_false]
            rfl
          · unfold spec_PushActivity_L0
            simp only [hl, if_true, e1, some_bind', Bool.false_eq_true, if_false]
            rfl
        · refine .inl ⟨s2, hn', ?_, ?_, hs2⟩
          · unfold impl_PushActivity_L0
            simp only [hl, if_true, e2, some_bind', an]
          · unfold spec_PushActivity_L0
            simp only [hl, if_true, e1, some_bind', an]
      · obtain rfl : n = 40 := by omega
        have hl : ltZ ((40 : Nat) : Int) 40 = false := rfl
        refine .inr ⟨.inl (.inl (false, ((40 : Nat) : Int), p, s1, ([], [], ()), ())), .inl (.inl (false, ((40 : Nat) : Int), p, s1, ([], [], ()), ())), ?_, ?_, s1, hs1, _, rfl, rfl⟩
        · unfold impl_PushActivity_L0
          simp only [hl, some_bind', Bool.false_eq_true, if_false]
          rfl
        · unfold spec_PushActivity_L0
          simp only [hl, some_bind', Bool.false_eq_true, if_false]
          rfl)
    (a := mvS s i (addZ .i64 x k)) (s := (0, p, mvS s i (addZ .i64 x k), ([], [], ()), ())) (t := (0, p, mvS s i (addZ .i64 x k), ([], [], ()), ())) rfl rfl (hs.mv i _)
  have g1 := hs'.l1
  have g2 := hs'.l2
  have hmv : (setI s.1 (i : Int) (fun _ => addZ .i64 x k), s.2) = mvS s i (addZ .i64 x k) := rfl
  rcases tf (okV p s') with h3 | h3
  · refine ⟨([], [], ()), false, by simp, by simp, fun _ => rfl, fun u => ?_, fun u => ?_⟩
    · unfold spec_PushActivity
      simp only [ScheduleOk_spec _ _ _ hp, h, l01In_eq, h1, h2, notB_true, Bool.false_eq_true, if_false, some_bind', l09Copy_at hs, hx, hmv, l2, fin, h3, notB_false, if_true]
    · unfold impl_PushActivity
      simp only [ScheduleOk_impl _ _ _ hp, h, hasActivity_eq, isTime_eq, h1, h2, notB_true, Bool.false_eq_true, if_false, some_bind', later_at hs _ _ hx, l1, fin, h3, notB_false, if_true]
  · refine ⟨s', true, by omega, by omega, fun h => absurd (h1.symm.trans h) (by simp), fun u => ?_, fun u => ?_⟩
    · unfold spec_PushActivity
      simp only [ScheduleOk_spec _ _ _ hp, h, l01In_eq, h1, h2, notB_true, Bool.false_eq_true, if_false, some_bind', l09Copy_at hs, hx, hmv, l2, fin, h3]
    · unfold impl_PushActivity
      simp only [ScheduleOk_impl _ _ _ hp, h, hasActivity_eq, isTime_eq, h1, h2, notB_true, Bool.false_eq_true, if_false, some_bind', later_at hs _ _ hx, l1, fin, h3]
end Go.Proofs.YtafnhdfjcocpgaaGreat
