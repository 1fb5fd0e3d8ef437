/-
  Plain laws: what is used in every case at a time, and the least work in an interval, in the program and in the reference. Condition: no list is longer than 2 to the 40.
-/
import Derived.Test.YtafnhdfjcocpgaaGreatw4LLeast
import Derived.Test.YtafnhdfjcocpgaaGreatw4LDom
import Derived.Test.YtafnhdfjcocpgaaGreatw4LRestrict
namespace Go.Proofs.YtafnhdfjcocpgaaGreat
open Go.Abs
set_option linter.unusedVariables false
set_option linter.unusedSimpArgs false

def durD (a : D_Activity) (ms : List Int) : Int := durV (fun x n => ltZ x n) a ms
/-- what a domain of a valid project has at a place: starts, modes, least duration -/
theorem dom_dur {p : D_Project} {b : D_Domain} (hp : Sm_Project 1099511627776 p) (hb : Sm_Domain 1099511627776 b) (h : domB p b = true) {i : Nat} (hi : i < p.2.1.length) :
    ∃ (x y : Int) (m : List Int), getI b.1 (i : Int) = some x ∧ getI b.2.1 (i : Int) = some y ∧ getI b.2.2.1 (i : Int) = some m ∧ -2 ≤ x ∧ x ≤ 62 ∧ -2 ≤ y ∧ y ≤ 62 ∧ m.length ≤ 1099511627776 ∧ (∀ k ∈ m, ∃ n : Nat, k = (n : Int) ∧ n < p.2.1[i].2.2.1.length) ∧
      (∀ u, spec_l14Short (p, b, (i : Int), u) () = some (durD p.2.1[i] m, ())) ∧ ∀ u, impl_Project_duration (p, b, (i : Int), u) () = some (durD p.2.1[i] m, ()) := by
  obtain ⟨x, y, m, g1, g2, g3, hm, x1, x2, y1, y2, -, hs⟩ := dom_at h hi
  have hj := proj_of_dom h
  have ha := mode_len hj hi
  have hml := (hb.2.2.1.2 m hm).1
  refine ⟨x, y, m, g1, g2, g3, x1, x2, y1, y2, hml, fun k hk => ?_, fun u => ?_, fun u => ?_⟩
  · unfold subB at hs
    have h1 := List.all_eq_true.1 hs k hk
    unfold hasB at h1
    obtain ⟨z, hz, e⟩ := List.any_eq_true.1 h1
    obtain ⟨n, rfl, hn⟩ := iotaI_mem hz
    rw [eqZ_dec, decide_eq_true_eq] at e
    exact ⟨n, e.symm, hn⟩
  · unfold spec_l14Short durD
    simp only [getI_lt hi, g3, MinDuration_spec _ _ _ (show p.2.1[i].2.2.1.length ≤ 1000000 by omega) hml, some_bind']
  · unfold impl_Project_duration durD
    simp only [getI_lt hi, g3, MinDuration_impl _ _ _ (show p.2.1[i].2.2.1.length ≤ 1000000 by omega) hml, some_bind']
theorem need_both {p : D_Project} {b : D_Domain} (hp : Sm_Project 1099511627776 p) (hb : Sm_Domain 1099511627776 b) (h : domB p b = true) {i j : Nat} (hi : i < p.2.1.length) (hj : j < p.2.2.2.1.length) {m : List Int} (hm : getI b.2.2.1 (i : Int) = some m) (hml : m.length ≤ 1099511627776) :
    ∃ v, (∀ u, spec_l14Need (p, b, (j : Int), (i : Int), u) () = some (v, ())) ∧ ∀ u, impl_MinUsage (p.2.1[i], m, (j : Int), u) () = some (v, ()) := by
  have hpj := proj_of_dom h
  have ha := mode_len hpj hi
  obtain ⟨e1, e2⟩ := MinUsage_both p.2.1[i] m (j : Int) (by omega) hml (fun md hmd => by
    have := usage_atM hp hpj hi hj md hmd
    exact ⟨this.1, this.2.1⟩)
  refine ⟨_, fun u => ?_, e2⟩
  unfold spec_l14Need
  simp only [getI_lt hi, hm, e1, some_bind']
theorem use14_both (p : D_Project) (b : D_Domain) (j : Nat) (t : Int) (hp : Sm_Project 1099511627776 p) (hb : Sm_Domain 1099511627776 b) (h : domB p b = true) (hj : j < p.2.2.2.1.length) :
    ∃ v, (∀ u, spec_l14Use (p, b, (j : Int), t, u) () = some (v, ())) ∧ ∀ u, impl_Project_compulsoryUsage (p, b, (j : Int), t, u) () = some (v, ()) := by
  have hle := hp.2.1.1
  obtain ⟨o, o', l1, l2, v, rfl, rfl⟩ := any_loops (F := spec_l14Use_L0) (G := impl_Project_compulsoryUsage_L0) (fun i (s : Int) => ((i : Int), (p.2.1.length : Int), t, p, b, (j : Int), s, ())) (fun i s => ((i : Int), (p.2.1.length : Int), p.2.1, p, t, b, (j : Int), s, ())) p.2.1.length (fun _ _ => True)
    (fun o o' => ∃ v, o = .inl (.inl (false, (p.2.1.length : Int), (p.2.1.length : Int), t, p, b, (j : Int), v, ())) ∧ o' = .inl (.inl (false, (p.2.1.length : Int), (p.2.1.length : Int), p.2.1, p, t, b, (j : Int), v, ()))) hle
    (fun i s hi _ => by
      by_cases hi' : i < p.2.1.length
      · obtain ⟨x, y, m, g1, g2, g3, x1, x2, y1, y2, hml, -, d1, d2⟩ := dom_dur hp hb h hi'
        obtain ⟨v, n1, n2⟩ := need_both hp hb h hi' hj g3 hml
        have hc : ∀ u, impl_Project_compulsory (p, b, (i : Int), u) () = some ((y, addZ .i64 x (durD p.2.1[i] m), ()), ()) := fun u => by
          unfold impl_Project_compulsory
          simp only [g1, g2, d2, some_bind']
        refine .inl ⟨if (leZ y t && ltZ t (addZ .i64 x (durD p.2.1[i] m))) = true then addZ .i64 s v else s, hi', ?_, ?_, trivial⟩
        · unfold spec_l14Use_L0
          simp only [lt_yes hi', if_true, g1, g2, d1, some_bind']
          rcases tf (leZ y t) with q | q <;> rcases tf (ltZ t (addZ .i64 x (durD p.2.1[i] m))) with q' | q' <;> simp [-Int.natCast_add, q, q', n1, idxN hi' hle (Nat.le_refl _)]
        · unfold impl_Project_compulsoryUsage_L0
          simp only [lt_yes hi', if_true, getI_lt hi', hc, some_bind']
          rcases tf (leZ y t) with q | q <;> rcases tf (ltZ t (addZ .i64 x (durD p.2.1[i] m))) with q' | q' <;> simp [-Int.natCast_add, q, q', g3, n2, idxN hi' hle (Nat.le_refl _)]
      · obtain rfl : i = p.2.1.length := by omega
        refine .inr ⟨_, _, ?_, ?_, s, rfl, rfl⟩
        · unfold spec_l14Use_L0
          simp only [lt_no, Bool.false_eq_true, if_false]
          rfl
        · unfold impl_Project_compulsoryUsage_L0
          simp only [lt_no, Bool.false_eq_true, if_false]
          rfl)
    (a := 0) (s := (0, (p.2.1.length : Int), t, p, b, (j : Int), 0, ())) (t := (0, (p.2.1.length : Int), p.2.1, p, t, b, (j : Int), 0, ())) rfl rfl trivial
  refine ⟨v, fun u => ?_, fun u => ?_⟩
  · unfold spec_l14Use
    simp only [lenI_eq, l1, fin, some_bind']
  · unfold impl_Project_compulsoryUsage
    simp only [lenI_eq, l2, fin, some_bind']

theorem maxI_comm (x y : Int) : maxI x y = maxI y x := by
  unfold maxI
  by_cases h : y > x
  · rw [if_pos h, if_neg (by omega)]
  · by_cases h' : x > y
    · rw [if_neg h, if_pos h']
    · rw [if_neg h, if_neg h']; omega
theorem mulZ_comm (x y : Int) : mulZ .i64 x y = mulZ .i64 y x := by
  unfold mulZ
  rw [Int.mul_comm]
/-- how long an interval and a run overlap -/
def ovV (s d x y : Int) : Int := maxI (subZ .i64 (minI (addZ .i64 s d) y) (maxI s x)) 0
theorem ovV_le {s d x y : Int} (hs : -2 ≤ s ∧ s ≤ 62) (hd : 1 ≤ d ∧ d ≤ 12) (hx : 0 ≤ x ∧ x ≤ 60) (hy : 0 ≤ y ∧ y ≤ 60) : 0 ≤ ovV s d x y ∧ ovV s d x y ≤ 12 := by
  unfold ovV
  rw [addZ64 (by omega) (by omega)]
  have h1 : minI (s + d) y ≤ s + d ∧ minI (s + d) y ≤ 60 ∧ -1 ≤ minI (s + d) y := by unfold minI; split <;> omega
  have h2 : s ≤ maxI s x ∧ maxI s x ≤ 62 ∧ 0 ≤ maxI s x := by unfold maxI; split <;> omega
  rw [subZ64 (by omega) (by omega)]
  unfold maxI
  unfold maxI at h2
  split <;> omega
theorem Overlap_both (s d x y : Int) (hs : -2 ≤ s ∧ s ≤ 62) (hd : 1 ≤ d ∧ d ≤ 12) (hx : 0 ≤ x ∧ x ≤ 60) (hy : 0 ≤ y ∧ y ≤ 60) : (∀ u, spec_Overlap (s, d, x, y, u) () = some (ovV s d x y, ())) ∧ ∀ u, impl_Overlap (s, d, x, y, u) () = some (ovV s d x y, ()) := by
  have hg : ∀ i : Nat, i < 4 → ∃ v, getI [s, d, x, y] (i : Int) = some v ∧ inB v (-100000) 100000 = true := fun i hi => by
    rcases i with _ | _ | _ | _ | i
    · exact ⟨s, rfl, by rw [inB_iff]; omega⟩
    · exact ⟨d, rfl, by rw [inB_iff]; omega⟩
    · exact ⟨x, rfl, by rw [inB_iff]; omega⟩
    · exact ⟨y, rfl, by rw [inB_iff]; omega⟩
    · omega
  obtain ⟨o, o', l1, l2, rfl, rfl⟩ := any_loops (F := spec_Overlap_L0) (G := impl_Overlap_L0) (fun i (_ : Unit) => ((i : Int), ((4 : Nat) : Int), [s, d, x, y], d, y, s, x, ())) (fun i _ => ((i : Int), ((4 : Nat) : Int), [s, d, x, y], d, y, s, x, ())) 4 (fun _ _ => True)
    (fun o o' => o = .inl (.inl (false, ((4 : Nat) : Int), ((4 : Nat) : Int), [s, d, x, y], d, y, s, x, ())) ∧ o' = .inl (.inl (false, ((4 : Nat) : Int), ((4 : Nat) : Int), [s, d, x, y], d, y, s, x, ()))) (by omega)
    (fun i _ hi _ => by
      by_cases hi' : i < 4
      · obtain ⟨v, g1, g2⟩ := hg i hi'
        refine .inl ⟨(), hi', ?_, ?_, trivial⟩
        · unfold spec_Overlap_L0
          simp only [lt_yes hi', if_true, g1, some_bind', l01In_eq, g2, notB_true, Bool.false_eq_true, if_false, idxN hi' (show 4 ≤ 1099511627776 by omega) (Nat.le_refl _)]
        · unfold impl_Overlap_L0
          simp only [lt_yes hi', if_true, g1, some_bind', within_eq, g2, notB_true, Bool.false_eq_true, if_false, idxN hi' (show 4 ≤ 1099511627776 by omega) (Nat.le_refl _)]
      · obtain rfl : i = 4 := by omega
        refine .inr ⟨_, _, ?_, ?_, rfl, rfl⟩
        · unfold spec_Overlap_L0
          simp only [lt_no, Bool.false_eq_true, if_false]
          rfl
        · unfold impl_Overlap_L0
          simp only [lt_no, Bool.false_eq_true, if_false]
          rfl)
    (a := ()) (s := (0, ((4 : Nat) : Int), [s, d, x, y], d, y, s, x, ())) (t := (0, ((4 : Nat) : Int), [s, d, x, y], d, y, s, x, ())) rfl rfl trivial
  have hd1 : ltZ d 1 = false := by rw [Bool.eq_false_iff, Ne, ltZ_iff]; omega
  have h4 : lenI [s, d, x, y] = ((4 : Nat) : Int) := rfl
  refine ⟨fun u => ?_, fun u => ?_⟩
  · unfold spec_Overlap ovV
    simp only [h4, l1, fin, some_bind', hd1, Bool.false_eq_true, if_false, l02Min_s, l02Max_s]
    rw [maxI_comm 0]
  · unfold impl_Overlap ovV
    simp only [h4, l2, fin, some_bind', hd1, Bool.false_eq_true, if_false]
theorem work_both (p : D_Project) (b : D_Domain) (i j : Nat) (x y : Int) (hp : Sm_Project 1099511627776 p) (hb : Sm_Domain 1099511627776 b) (h : domB p b = true) (hi : i < p.2.1.length) (hj : j < p.2.2.2.1.length) (hx : 0 ≤ x ∧ x ≤ 60) (hy : 0 ≤ y ∧ y ≤ 60) :
    ∃ v, 0 ≤ v ∧ v ≤ 240 ∧ (∀ u, spec_l15Work (p, b, (i : Int), (j : Int), x, y, u) () = some (v, ())) ∧ ∀ u, impl_Project_minWork (p, b, (i : Int), (j : Int), x, y, u) () = some (v, ()) := by
  obtain ⟨s, e, m, g1, g2, g3, x1, x2, y1, y2, hml, hmm, -, -⟩ := dom_dur hp hb h hi
  have hpj := proj_of_dom h
  have h0 : ltZ (-1) 0 = true := rfl
  obtain ⟨o, o', l1, l2, f, v, hv, rfl, rfl⟩ := any_loops (F := spec_l15Work_L0) (G := impl_Project_minWork_L0) (fun k (s : Bool × Int) => ((k : Int), (m.length : Int), m, p, (j : Int), b, (i : Int), x, y, (if s.1 = true then s.2 else -1), ())) (fun k s => ((k : Int), (m.length : Int), m, p, b, (i : Int), x, y, (j : Int), s.1, s.2, ())) m.length
    (fun _ s => 0 ≤ s.2 ∧ s.2 ≤ 240 ∧ (s.1 = false → s.2 = 0))
    (fun o o' => ∃ (f : Bool) (v : Int), (0 ≤ v ∧ v ≤ 240 ∧ (f = false → v = 0)) ∧ o = .inl (.inl (false, (m.length : Int), (m.length : Int), m, p, (j : Int), b, (i : Int), x, y, (if f = true then v else -1), ())) ∧ o' = .inl (.inl (false, (m.length : Int), (m.length : Int), m, p, b, (i : Int), x, y, (j : Int), f, v, ()))) hml
    (fun k s0 hk hI => by
      obtain ⟨f, n⟩ := s0
      obtain ⟨i1, i2, i3⟩ := hI
      simp only at i1 i2 i3
      by_cases hk' : k < m.length
      · obtain ⟨q, eq, hq⟩ := hmm _ (List.getElem_mem hk')
        obtain ⟨d1, d2, -, -, -, -⟩ := mode_atM hpj hi _ (List.getElem_mem hq)
        obtain ⟨-, ug, u1, u2⟩ := usage_atM hp hpj hi hj _ (List.getElem_mem hq)
        generalize hU : atV false (j : Int) p.2.1[i].2.2.1[q] = U at ug u1 u2
        obtain ⟨o1, o1'⟩ := Overlap_both s p.2.1[i].2.2.1[q].1 x y ⟨x1, x2⟩ ⟨d1, d2⟩ hx hy
        obtain ⟨o2, o2'⟩ := Overlap_both e p.2.1[i].2.2.1[q].1 x y ⟨y1, y2⟩ ⟨d1, d2⟩ hx hy
        have b1 := ovV_le (s := s) (d := p.2.1[i].2.2.1[q].1) (x := x) (y := y) ⟨x1, x2⟩ ⟨d1, d2⟩ hx hy
        have b2 := ovV_le (s := e) (d := p.2.1[i].2.2.1[q].1) (x := x) (y := y) ⟨y1, y2⟩ ⟨d1, d2⟩ hx hy
        have bm : 0 ≤ minI (ovV s p.2.1[i].2.2.1[q].1 x y) (ovV e p.2.1[i].2.2.1[q].1 x y) ∧ minI (ovV s p.2.1[i].2.2.1[q].1 x y) (ovV e p.2.1[i].2.2.1[q].1 x y) ≤ 12 := by unfold minI; split <;> omega
        generalize hM : minI (ovV s p.2.1[i].2.2.1[q].1 x y) (ovV e p.2.1[i].2.2.1[q].1 x y) = M at bm
        have hw0 : 0 ≤ U * M ∧ U * M ≤ 240 := by
          obtain ⟨un, rfl⟩ : ∃ un : Nat, U = (un : Int) := ⟨U.toNat, by omega⟩
          obtain ⟨mn, rfl⟩ : ∃ mn : Nat, M = (mn : Int) := ⟨M.toNat, by omega⟩
          have := Nat.mul_le_mul (show un ≤ 20 by omega) (show mn ≤ 12 by omega)
          have e : ((un : Int)) * (mn : Int) = ((un * mn : Nat) : Int) := by simp
          rw [e]
          omega
        have hw : mulZ .i64 U M = U * M := wrap64 (by omega) (by omega)
        have hw' : mulZ .i64 M U = U * M := by rw [mulZ_comm]; exact hw
        generalize U * M = W at hw hw' hw0
        have hgk : getI p.2.1[i].2.2.1 m[k] = some p.2.1[i].2.2.1[q] := by rw [eq]; exact getI_lt hq
        refine .inl ⟨if (notB f || ltZ W n) = true then (true, W) else (f, n), hk', ?_, ?_, ?_⟩
        · unfold spec_l15Work_L0
          simp only [lt_yes hk', if_true, getI_lt hk', getI_lt hi, hgk, ug, g1, g2, o1, o2, l02Min_s, hM, hw, some_bind']
          rcases tf f with rfl | rfl
          · simp [-Int.natCast_add, h0, notB, idxN hk' hml (Nat.le_refl _)]
          · have hn : ltZ n 0 = false := by rw [Bool.eq_false_iff, Ne, ltZ_iff]; omega
            rcases tf (ltZ W n) with q' | q' <;> simp [-Int.natCast_add, hn, q', notB, idxN hk' hml (Nat.le_refl _)]
        · unfold impl_Project_minWork_L0
          simp only [lt_yes hk', if_true, getI_lt hk', getI_lt hi, hgk, ug, g1, g2, o1', o2', hM, hw', some_bind']
          rcases tf f with rfl | rfl
          · simp [-Int.natCast_add, notB, idxN hk' hml (Nat.le_refl _)]
          · rcases tf (ltZ W n) with q' | q' <;> simp [-Int.natCast_add, q', notB, idxN hk' hml (Nat.le_refl _)]
        · split
          · exact ⟨hw0.1, hw0.2, fun h => by cases h⟩
          · exact ⟨i1, i2, i3⟩
      · obtain rfl : k = m.length := by omega
        refine .inr ⟨_, _, ?_, ?_, f, n, ⟨i1, i2, i3⟩, rfl, rfl⟩
        · unfold spec_l15Work_L0
          simp only [lt_no, Bool.false_eq_true, if_false]
          rfl
        · unfold impl_Project_minWork_L0
          simp only [lt_no, Bool.false_eq_true, if_false]
          rfl)
    (a := (false, 0)) (s := (0, (m.length : Int), m, p, (j : Int), b, (i : Int), x, y, -1, ())) (t := (0, (m.length : Int), m, p, b, (i : Int), x, y, (j : Int), false, 0, ())) (by simp) rfl ⟨by simp, by simp, by simp⟩
  refine ⟨v, hv.1, hv.2.1, fun u => ?_, fun u => ?_⟩
  · have hmx : maxI (if f = true then v else -1) 0 = v := by
      rcases tf f with rfl | rfl
      · have := hv.2.2 rfl
        subst this
        rfl
      · simp only [if_true]
        unfold maxI
        have := hv.1
        split <;> omega
    unfold spec_l15Work
    simp only [lenI_eq, g3, l1, fin, some_bind', l02Max_s, hmx]
  · unfold impl_Project_minWork
    simp only [lenI_eq, g3, l2, fin, some_bind']
end Go.Proofs.YtafnhdfjcocpgaaGreat
