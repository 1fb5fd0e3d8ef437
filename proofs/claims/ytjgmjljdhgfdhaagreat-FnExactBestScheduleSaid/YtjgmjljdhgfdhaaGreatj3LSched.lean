/-
  Plain laws: all valid schedules of small starts, in the program and in the reference. Condition: no list is longer than 2 to the 40.
-/
import Derived.Test.YtjgmjljdhgfdhaaGreatj3LStarts
import Derived.Test.YtjgmjljdhgfdhaaGreatj3LShape
namespace Go.Proofs.YtjgmjljdhgfdhaaGreat
open Go.Abs
set_option linter.unusedVariables false
set_option linter.unusedSimpArgs false

theorem shape_of_lists {p : D_Project} (h : projB p = true) {t l : List Int} (ht : t.length = p.2.1.length) (hl : modesOk p.2.1 l) : Shape p (t, l, ()) := by
  refine ⟨h, ht, hl.1, fun i hi => ?_⟩
  obtain ⟨m, g1, g2⟩ := hl.2 i hi
  exact ⟨m, p.2.1[i].2.2.1[m], by rw [getI_nat]; exact g1, getI_lt g2⟩
def endW (p : D_Project) (s : D_Schedule) (a : Int) : Int := match spec_l09End (p, s, a, ()) () with | some e => e.1 | none => 0
/-- what the reference looks at first: it is true of every valid schedule -/
theorem quick_ok (p : D_Project) (s : D_Schedule) (hp : Sm_Project 1099511627776 p) (hs : Shape p s) : ∃ b, (∀ u, spec_l32Quick (p, s, u) () = some (b, ())) ∧ (okV p s = true → b = true) := by
  obtain ⟨-, h6⟩ := proj_acts hs.ok
  obtain ⟨-, -, hk12⟩ := proj_sizes hs.ok
  have hok : okV p s = true → (∀ r ∈ ruleL p, failB p s r = false) ∧ formB p s = true := fun h => by
    have hf := form_of_ok h
    refine ⟨fun r hr => ?_, hf⟩
    unfold okV violL at h
    rw [hf, if_pos rfl, Bool.true_and, eqZ_dec, decide_eq_true_eq, lenI_eq] at h
    have h0 : ((ruleL p).filter (failB p s)) = [] := List.eq_nil_of_length_eq_zero (by omega)
    rw [List.filter_eq_nil_iff] at h0
    simpa using h0 r hr
  -- the links
  have z : eqZ 1 1 = true := rfl
  have hlink : ∀ k : Nat, (hk : k < p.2.2.1.length) → ∃ b, ∀ u, spec_l10Fails (p, s, (1, (k : Int), 0, 0, ()), u) () = some (b, ()) := fun k hk => by
    obtain ⟨f, t, ef, et, hf, ht, -⟩ := link_at hp hs.ok hk
    obtain ⟨x, e, g1, ge⟩ := hs.at hf
    obtain ⟨y, e', g1', ge'⟩ := hs.at ht
    rcases tf p.2.2.1[k].2.2.1 with hb | hb
    · refine ⟨ltZ y (addZ .i64 x p.2.2.1[k].2.2.2.1), fun u => ?_⟩
      unfold spec_l10Fails
      simp only [z, if_true, getI_lt hk, some_bind', ef, et, g1, g1', hb, Bool.false_eq_true, if_false]
    · refine ⟨ltZ y (addZ .i64 e p.2.2.1[k].2.2.2.1), fun u => ?_⟩
      unfold spec_l10Fails
      simp only [z, if_true, getI_lt hk, some_bind', ef, et, g1, g1', ge, hb]
  have hlinkV : ∀ k : Nat, (hk : k < p.2.2.1.length) → ∀ u, spec_l10Fails (p, s, (1, (k : Int), 0, 0, ()), u) () = some (failB p s (1, (k : Int), 0, 0, ()), ()) := fun k hk u => by
    obtain ⟨b, e⟩ := hlink k hk
    unfold failB
    rw [e]
  have l0 := fun A : Type => allIS (A := A) (F := spec_l32Quick_L0) (fun i => ((i : Int), (p.2.2.1.length : Int), s, p, ())) (0, (p.2.2.1.length : Int), s, p, ()) p.2.2.1.length (fun i => notB (failB p s (1, (i : Int), 0, 0, ()))) (Sum.inl (false, (p.2.2.1.length : Int), (p.2.2.1.length : Int), s, p, ())) (false, ()) rfl (by omega)
    (fun i hi => by
      unfold spec_l32Quick_L0
      simp only [lt_yes hi, if_true, hlinkV i hi, some_bind', idxN hi hk12 (by omega)]
      rcases tf (failB p s (1, (i : Int), 0, 0, ())) with q | q <;> simp [q, notB])
    (by unfold spec_l32Quick_L0; simp only [lt_no, Bool.false_eq_true, if_false])
  have hendV : ∀ i : Nat, (hi : i < p.2.1.length) → ∀ u, spec_l09End (p, s, (i : Int), u) () = some ((endW p s (i : Int)), ()) := fun i hi u => by
    obtain ⟨x, e, g1, ge⟩ := hs.at hi
    unfold endW
    rw [ge]
  have l1 := fun A : Type => allIS (A := A) (F := spec_l32Quick_L1) (fun i => ((i : Int), (p.2.1.length : Int), s, p, ())) (0, (p.2.1.length : Int), s, p, ()) p.2.1.length (fun i => notB (ltZ p.1 (endW p s (i : Int)))) (Sum.inl (false, (p.2.1.length : Int), (p.2.1.length : Int), s, p, ())) (false, ()) rfl (by omega)
    (fun i hi => by
      unfold spec_l32Quick_L1
      simp only [lt_yes hi, if_true, hendV i hi, some_bind', idxN hi h6 (by omega)]
      rcases tf (ltZ p.1 (endW p s (i : Int))) with q | q <;> simp [q, notB])
    (by unfold spec_l32Quick_L1; simp only [lt_no, Bool.false_eq_true, if_false])
  refine ⟨(List.range p.2.2.1.length).all (fun i => notB (failB p s (1, (i : Int), 0, 0, ()))) && (List.range p.2.1.length).all (fun i => notB (ltZ p.1 (endW p s (i : Int)))), fun u => ?_, fun h => ?_⟩
  · unfold spec_l32Quick
    simp only [lenI_eq, l0]
    rcases tf ((List.range p.2.2.1.length).all (fun i => notB (failB p s (1, (i : Int), 0, 0, ())))) with q | q
    · simp only [q, Bool.false_eq_true, if_false, some_bind', Bool.false_and]
    · simp only [q, if_true, some_bind', l1, Bool.true_and]
      rcases tf ((List.range p.2.1.length).all (fun i => notB (ltZ p.1 (endW p s (i : Int))))) with q' | q' <;> simp only [q', if_true, Bool.false_eq_true, if_false, some_bind']
  · obtain ⟨hn, hf⟩ := hok h
    obtain ⟨r1, r2⟩ := rules_first hp hs.ok
    rw [Bool.and_eq_true, List.all_eq_true, List.all_eq_true]
    refine ⟨fun i hi => ?_, fun i hi => ?_⟩
    · rw [hn _ (r1 i (by simpa using hi))]
      rfl
    · have hi' : i < p.2.1.length := by simpa using hi
      have h2 := hn _ (r2 i hi')
      have z1 : eqZ 2 1 = false := rfl
      have z2 : eqZ 2 2 = true := rfl
      have e2 : spec_l10Fails (p, s, (2, (i : Int), 0, 0, ()), ()) () = some (ltZ p.1 (endW p s (i : Int)), ()) := by
        unfold spec_l10Fails
        simp only [z1, z2, if_true, Bool.false_eq_true, if_false, hendV i hi', some_bind']
      unfold failB at h2
      rw [e2] at h2
      simp only at h2
      rw [h2]
      rfl
theorem AllSchedules_both (p : D_Project) (m : Int) (hp : Sm_Project 1099511627776 p) : ∃ w : List D_Schedule, w.length ≤ 60000 ∧ (∀ s ∈ w, s.1.length ≤ 6 ∧ s.2.1.length ≤ 6) ∧ (∀ u, spec_AllSchedules (p, m, u) () = some (w, ())) ∧ ∀ u, impl_AllSchedules (p, m, u) () = some (w, ()) := by
  rcases tf (projB p) with h | h
  · refine ⟨[], by simp, by simp, fun u => ?_, fun u => ?_⟩
    · unfold spec_AllSchedules
      simp [ProjectOk_spec _ _ hp, h, notB]
    · unfold impl_AllSchedules
      simp [ProjectOk_impl _ _ hp, h, notB]
  rcases tf (ltZ 3 (lenI p.2.1)) with h3 | h3
  rotate_left
  · refine ⟨[], by simp, by simp, fun u => ?_, fun u => ?_⟩
    · unfold spec_AllSchedules
      simp [ProjectOk_spec _ _ hp, h, h3, notB]
    · unfold impl_AllSchedules
      simp [ProjectOk_impl _ _ hp, h, h3, notB]
  rcases tf (inB m 0 12) with h12 | h12
  · refine ⟨[], by simp, by simp, fun u => ?_, fun u => ?_⟩
    · unfold spec_AllSchedules
      simp [ProjectOk_spec _ _ hp, l01In_eq, h, h3, h12, notB]
    · unfold impl_AllSchedules
      simp [ProjectOk_impl _ _ hp, within_eq, h, h3, h12, notB]
  have hn3 : p.2.1.length ≤ 3 := by
    rw [Bool.eq_false_iff, Ne, ltZ_iff, lenI_eq] at h3
    omega
  obtain ⟨m0, m12⟩ := inB_iff.1 h12
  obtain ⟨k, rfl⟩ : ∃ k : Nat, m = (k : Int) := ⟨m.toNat, by omega⟩
  have hk : k ≤ 12 := by omega
  obtain ⟨-, hmod⟩ := proj_modes h
  obtain ⟨ll, lm⟩ := listsOf_ok p.2.1 hn3 hmod
  obtain ⟨sl, sm⟩ := startsV_ok hn3 hk
  have eL : allV p = listsOf p.2.1 := by unfold allV; rw [if_pos h]
  generalize hL : listsOf p.2.1 = L at ll lm eL
  have eS := fun u => Starts_spec p.2.1.length k u hn3 hk
  have eI := fun u => Starts_impl p.2.1.length k u hn3 hk
  generalize hS : startsV p.2.1.length k = S at sl sm eS eI
  -- the inner loop
  have inner : ∀ (l : List Int), modesOk p.2.1 l → ∀ (i : Int) (n : Int) (out : List D_Schedule) (b : Nat), out.length ≤ b → b ≤ 60000 → (∀ s ∈ out, s.1.length ≤ 6 ∧ s.2.1.length ≤ 6) →
      ∃ out', out'.length ≤ b + 2197 ∧ (∀ s ∈ out', s.1.length ≤ 6 ∧ s.2.1.length ≤ 6) ∧
        (∀ A : Type, loopN (A := A) big spec_AllSchedules_L0 (0, (S.length : Int), S, l, i, n, L, S, p, out, ()) = some (.exit (Sum.inl (false, (S.length : Int), (S.length : Int), S, l, i, n, L, S, p, out', ())))) ∧
        ∀ A : Type, loopN (A := A) big impl_AllSchedules_L0 (0, (S.length : Int), S, l, i, n, L, (k : Int), p, out, ()) = some (.exit (Sum.inl (false, (S.length : Int), (S.length : Int), S, l, i, n, L, (k : Int), p, out', ()))) := by
    intro l hl i n out b hb hb6 hout
    obtain ⟨o, o', l1, l2, out', h1, h2, rfl, rfl⟩ := any_loops (F := spec_AllSchedules_L0) (G := impl_AllSchedules_L0) (fun j out => ((j : Int), (S.length : Int), S, l, i, n, L, S, p, out, ())) (fun j out => ((j : Int), (S.length : Int), S, l, i, n, L, (k : Int), p, out, ())) S.length
      (fun j out => out.length ≤ b + j ∧ ∀ s ∈ out, s.1.length ≤ 6 ∧ s.2.1.length ≤ 6)
      (fun o o' => ∃ out' : List D_Schedule, out'.length ≤ b + 2197 ∧ (∀ s ∈ out', s.1.length ≤ 6 ∧ s.2.1.length ≤ 6) ∧ o = .inl (.inl (false, (S.length : Int), (S.length : Int), S, l, i, n, L, S, p, out', ())) ∧ o' = .inl (.inl (false, (S.length : Int), (S.length : Int), S, l, i, n, L, (k : Int), p, out', ()))) (by omega)
      (fun j out hj hI => by
        obtain ⟨hI1, hI2⟩ := hI
        by_cases hj' : j < S.length
        · have hsh := shape_of_lists h (sm _ (List.getElem_mem hj')) hl
          have g1 := hsh.l1
          have g2 := hsh.l2
          obtain ⟨qb, eq, hq⟩ := quick_ok p (S[j], l, ()) hp hsh
          have ecp := fun u => l09Copy_at hsh u
          have eci : ∀ u, impl_Schedule_copied ((S[j], l, ()), u) () = some ((S[j], l, ()), ()) := fun u => by
            have c1 : S[j].length ≤ 1000000 := by have : S[j].length = p.2.1.length := g1; omega
            have c2 : l.length ≤ 1000000 := by have : l.length = p.2.1.length := g2; omega
            unfold impl_Schedule_copied slices_Clone_int_int
            simp only [add_nil S[j] c1, add_nil l c2, some_bind']
          rcases tf (okV p (S[j], l, ())) with ho | ho
          · refine .inl ⟨out, hj', ?_, ?_, by omega, hI2⟩
            · unfold spec_AllSchedules_L0
              simp only [lt_yes hj', if_true, getI_lt hj', some_bind', eq, ScheduleOk_spec _ _ _ hp, ho]
              rcases tf qb with q | q <;> simp [-Int.natCast_add, q, ScheduleOk_spec _ _ _ hp, ho, idxN hj' (show S.length ≤ 1099511627776 by omega) (Nat.le_refl _)]
            · unfold impl_AllSchedules_L0
              simp only [lt_yes hj', if_true, getI_lt hj', some_bind', ScheduleOk_impl _ _ _ hp, ho, Bool.false_eq_true, if_false, idxN hj' (show S.length ≤ 1099511627776 by omega) (Nat.le_refl _)]
          · have hqb := hq ho
            subst hqb
            refine .inl ⟨out ++ [(S[j], l, ())], hj', ?_, ?_, by simp; omega, fun s hs => ?_⟩
            · unfold spec_AllSchedules_L0
              simp only [lt_yes hj', if_true, getI_lt hj', some_bind', eq, ScheduleOk_spec _ _ _ hp, ho, ecp, add_one out _ (show out.length ≤ 1000000 by omega), idxN hj' (show S.length ≤ 1099511627776 by omega) (Nat.le_refl _)]
            · unfold impl_AllSchedules_L0
              simp only [lt_yes hj', if_true, getI_lt hj', some_bind', ScheduleOk_impl _ _ _ hp, ho, eci, add_one out _ (show out.length ≤ 1000000 by omega), idxN hj' (show S.length ≤ 1099511627776 by omega) (Nat.le_refl _)]
            · rcases List.mem_append.1 hs with hs | hs
              · exact hI2 s hs
              · rw [List.mem_singleton.1 hs]
                have g1' : S[j].length = p.2.1.length := g1
                have g2' : l.length = p.2.1.length := g2
                exact ⟨by show S[j].length ≤ 6; omega, by show l.length ≤ 6; omega⟩
        · obtain rfl : j = S.length := by omega
          refine .inr ⟨_, _, ?_, ?_, out, by omega, hI2, rfl, rfl⟩
          · unfold spec_AllSchedules_L0
            simp only [lt_no, Bool.false_eq_true, if_false]
            rfl
          · unfold impl_AllSchedules_L0
            simp only [lt_no, Bool.false_eq_true, if_false]
            rfl)
      (a := out) (s := (0, (S.length : Int), S, l, i, n, L, S, p, out, ())) (t := (0, (S.length : Int), S, l, i, n, L, (k : Int), p, out, ())) rfl rfl ⟨by omega, hout⟩
    exact ⟨out', h1, h2, l1, l2⟩
  obtain ⟨o, o', l1, l2, w, h1, h2, rfl, rfl⟩ := any_loops (F := spec_AllSchedules_L1) (G := impl_AllSchedules_L1) (fun j out => ((j : Int), (L.length : Int), L, S, p, out, ())) (fun j out => ((j : Int), (L.length : Int), L, (k : Int), p, out, ())) L.length
    (fun j (out : List D_Schedule) => out.length ≤ j * 2197 ∧ ∀ s ∈ out, s.1.length ≤ 6 ∧ s.2.1.length ≤ 6)
    (fun o o' => ∃ out' : List D_Schedule, out'.length ≤ 60000 ∧ (∀ s ∈ out', s.1.length ≤ 6 ∧ s.2.1.length ≤ 6) ∧ o = .inl (.inl (false, (L.length : Int), (L.length : Int), L, S, p, out', ())) ∧ o' = .inl (.inl (false, (L.length : Int), (L.length : Int), L, (k : Int), p, out', ()))) (by omega)
    (fun j out hj hI => by
      obtain ⟨hI1, hI2⟩ := hI
      have hb : j * 2197 ≤ 27 * 2197 := Nat.mul_le_mul_right _ (by omega)
      by_cases hj' : j < L.length
      · obtain ⟨out', g1, g2, e1, e2⟩ := inner L[j] (lm _ (List.getElem_mem hj')) (j : Int) (L.length : Int) out (j * 2197) hI1 (by omega) hI2
        refine .inl ⟨out', hj', ?_, ?_, by omega, g2⟩
        · unfold spec_AllSchedules_L1
          simp only [lt_yes hj', if_true, getI_lt hj', some_bind', lenI_eq, e1, idxN hj' (show L.length ≤ 1099511627776 by omega) (Nat.le_refl _)]
        · unfold impl_AllSchedules_L1
          simp only [lt_yes hj', if_true, getI_lt hj', some_bind', lenI_eq, eI, e2, idxN hj' (show L.length ≤ 1099511627776 by omega) (Nat.le_refl _)]
      · obtain rfl : j = L.length := by omega
        refine .inr ⟨_, _, ?_, ?_, out, by omega, hI2, rfl, rfl⟩
        · unfold spec_AllSchedules_L1
          simp only [lt_no, Bool.false_eq_true, if_false]
          rfl
        · unfold impl_AllSchedules_L1
          simp only [lt_no, Bool.false_eq_true, if_false]
          rfl)
    (a := []) (s := (0, (L.length : Int), L, S, p, [], ())) (t := (0, (L.length : Int), L, (k : Int), p, [], ())) rfl rfl ⟨by simp, by simp⟩
  refine ⟨w, h1, h2, fun u => ?_, fun u => ?_⟩
  · unfold spec_AllSchedules
    simp only [ProjectOk_spec _ _ hp, h, h3, l01In_eq, h12, notB_true, Bool.false_eq_true, if_false, some_bind', lenI_eq] at *
    simp only [eS, AllModeLists_spec _ _ hp, eL, some_bind', l1, fin]
  · unfold impl_AllSchedules
    simp only [ProjectOk_impl _ _ hp, h, h3, within_eq, h12, notB_true, Bool.false_eq_true, if_false, some_bind', lenI_eq] at *
    simp only [AllModeLists_impl _ _ hp, eL, some_bind', l2, fin]
end Go.Proofs.YtjgmjljdhgfdhaaGreat
