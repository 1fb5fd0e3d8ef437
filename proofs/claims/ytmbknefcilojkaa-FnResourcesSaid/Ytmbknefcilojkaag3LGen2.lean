/-
  Plain laws: the times to set up that are drawn. No condition.
-/
import Derived.Test.Ytmbknefcilojkaag3LGen
namespace Go.Proofs.Ytmbknefcilojkaa
open Go.Abs
set_option linter.unusedVariables false
set_option linter.unusedSimpArgs false

def Row4 (j : Nat) (r : List Int) : Prop := r.length = j ∧ ∀ n ∈ r, 0 ≤ n ∧ n ≤ 2
theorem Row4.snoc {j : Nat} {r : List Int} (h : Row4 j r) {x : Int} (hx : 0 ≤ x ∧ x ≤ 2) : Row4 (j + 1) (r ++ [x]) := by
  refine ⟨by simp [h.1], fun n hn => ?_⟩
  rcases List.mem_append.1 hn with hn | hn
  · exact h.2 n hn
  · rw [List.mem_singleton.1 hn]; exact hx
theorem l05Setup_L0_eq (out : List (List Int)) (i : Int) (c : D_l01Cur) (h : CurOk c) : ∃ bo k row c', loopN (A := (Int × ((List (List Int)) × ((List Int) × (Int × (D_l01Cur × Unit)))))) big spec_l05Setup_L0 (0, (out, ([], (i, (c, ()))))) = some (.exit (.inl (bo, (k, (out, (row, (i, (c', ())))))))) ∧ Row4 4 row ∧ CurOk c' := by
  obtain ⟨o, ho, hR⟩ := loopN_count (A := (Int × ((List (List Int)) × ((List Int) × (Int × (D_l01Cur × Unit)))))) (F := spec_l05Setup_L0) 4
    (fun j s => s.1 = (j : Int) ∧ s.2.1 = out ∧ Row4 j s.2.2.1 ∧ s.2.2.2.1 = i ∧ CurOk s.2.2.2.2.1)
    (fun o => ∃ bo k row c', o = .exit (.inl (bo, (k, (out, (row, (i, (c', ()))))))) ∧ Row4 4 row ∧ CurOk c') (fun j s hj hI => by
      obtain ⟨k, ou, row, i', cc, u⟩ := s
      obtain ⟨rfl, rfl, hr, rfl, hc⟩ := hI
      simp only at hr hc
      unfold spec_l05Setup_L0
      simp only
      by_cases hlt : ltZ (j : Int) 4 = true
      · rw [if_pos hlt]
        have hj4 : j < 4 := by rw [ltZ_iff] at hlt; omega
        have hadd : addZ .i64 (j : Int) 1 = ((j + 1 : Nat) : Int) := by rw [addZ64 (by omega) (by omega)]; omega
        have hroom : ∀ x : Int, addI row (x :: []) = some (row ++ [x]) := fun x => addI_ok (by simp only [List.length_singleton, hr.1]; exact Nat.le_trans (show j + 1 ≤ 4 by omega) (by decide))
        by_cases hne : notB (eqZ i' (j : Int)) = true
        · rw [if_pos hne]
          obtain ⟨a, ha, c2, hc2, e2⟩ := l01Below_eq cc hc 3 (by omega) (by omega)
          have e2' : spec_l01Below (cc, (3, ())) () = some ((a : Int), c2) := e2
          simp only [e2', Option.bind_some, hroom, hadd]
          exact ⟨_, rfl, hj4, rfl, rfl, hr.snoc ⟨by omega, by omega⟩, rfl, hc2⟩
        · rw [if_neg hne]
          simp only [Option.bind_some, hroom, hadd]
          exact ⟨_, rfl, hj4, rfl, rfl, hr.snoc ⟨by omega, by omega⟩, rfl, hc⟩
      · rw [if_neg hlt]
        have : j = 4 := by
          have : ¬ (j : Int) < 4 := fun hh => hlt (ltZ_iff.2 hh)
          omega
        subst this
        exact ⟨_, rfl, _, _, _, _, rfl, hr, hc⟩)
    (s := (0, (out, ([], (i, (c, ())))))) ⟨rfl, rfl, ⟨rfl, by simp⟩, rfl, h⟩ (by decide)
  obtain ⟨bo, k, row, c', rfl, h1, h2⟩ := hR
  exact ⟨bo, k, row, c', ho, h1, h2⟩
theorem l05Setup_eq (c : D_l01Cur) (h : CurOk c) : ∃ l c', (l.length = 4 ∧ ∀ row ∈ l, row.length = 4 ∧ ∀ n ∈ row, 0 ≤ n ∧ n ≤ 2) ∧ CurOk c' ∧ spec_l05Setup (c, ()) () = some (l, c') := by
  unfold spec_l05Setup
  obtain ⟨o, ho, hR⟩ := loopN_count (A := (Int × ((List (List Int)) × (D_l01Cur × Unit)))) (F := spec_l05Setup_L1) 4
    (fun j s => s.1 = (j : Int) ∧ (s.2.1.length = j ∧ ∀ row ∈ s.2.1, Row4 4 row) ∧ CurOk s.2.2.1)
    (fun o => ∃ bo i l c', o = .exit (.inl (bo, (i, (l, (c', ()))))) ∧ (l.length = 4 ∧ ∀ row ∈ l, Row4 4 row) ∧ CurOk c') (fun j s hj hI => by
      obtain ⟨i, l, cc, u⟩ := s
      obtain ⟨rfl, ⟨hl, hr⟩, hc⟩ := hI
      simp only at hl hr hc
      unfold spec_l05Setup_L1
      simp only
      by_cases hlt : ltZ (j : Int) 4 = true
      · rw [if_pos hlt]
        have hj4 : j < 4 := by rw [ltZ_iff] at hlt; omega
        have hadd : addZ .i64 (j : Int) 1 = ((j + 1 : Nat) : Int) := by rw [addZ64 (by omega) (by omega)]; omega
        obtain ⟨bo, k, row, c', e, h1, h2⟩ := l05Setup_L0_eq l (j : Int) cc hc
        have hroom : addI l (row :: []) = some (l ++ [row]) := addI_ok (by simp only [List.length_singleton, hl]; exact Nat.le_trans (show j + 1 ≤ 4 by omega) (by decide))
        simp only [e, Option.bind_some, hroom, hadd]
        refine ⟨_, rfl, hj4, rfl, ⟨by simp [hl], fun r hm => ?_⟩, h2⟩
        rcases List.mem_append.1 hm with hm | hm
        · exact hr r hm
        · rw [List.mem_singleton.1 hm]; exact h1
      · rw [if_neg hlt]
        have : j = 4 := by
          have : ¬ (j : Int) < 4 := fun hh => hlt (ltZ_iff.2 hh)
          omega
        subst this
        exact ⟨_, rfl, _, _, _, _, rfl, ⟨hl, hr⟩, hc⟩)
    (s := (0, ([], (c, ())))) ⟨rfl, ⟨rfl, by simp⟩, h⟩ (by decide)
  obtain ⟨bo, i, l, c', rfl, ⟨h1, h2⟩, h3⟩ := hR
  simp only [ho, Option.bind_some]
  exact ⟨l, c', ⟨h1, fun r hr => h2 r hr⟩, h3, rfl⟩
end Go.Proofs.Ytmbknefcilojkaa
