/-
  Plain laws: the numbers below a bound, the modes of an activity. Condition: a bound of at most 200.
-/
import Derived.Test.YtafnhdfjcocpgaaGreatw3LProj2
namespace Go.Proofs.YtafnhdfjcocpgaaGreat
open Go.Abs
set_option linter.unusedVariables false
set_option linter.unusedSimpArgs false

theorem addNilR {α : Type} (x : List α) (h : x.length ≤ 1048576) : addI [] x = some x := by
  rw [addI_ok (by rw [room_eq]; simp; omega)]
  rfl
theorem addOneR {α : Type} (x : List α) (y : α) (h : x.length ≤ 1048576) : addI x [y] = some (x ++ [y]) := addI_ok (by rw [room_eq]; simp; omega)
theorem mode_count {p : D_Project} (h : projB p = true) : p.2.1.length ≤ 6 ∧ ∀ i (hi : i < p.2.1.length), 1 ≤ p.2.1[i].2.2.1.length ∧ p.2.1[i].2.2.1.length ≤ 3 := by
  unfold projB at h
  simp only [Bool.and_eq_true] at h
  refine ⟨?_, fun i hi => ?_⟩
  · have := inB_iff.1 h.1.1.1.1.1.1.1.2
    rw [lenI_eq] at this
    omega
  · have h1 := h.1.1.1.2
    rw [List.all_eq_true] at h1
    have h2 := h1 i (by simpa using hi)
    unfold actI at h2
    rw [List.getElem?_eq_getElem hi] at h2
    simp only [Bool.and_eq_true] at h2
    have h3 := h2.1
    unfold actB at h3
    simp only [Bool.and_eq_true] at h3
    have := inB_iff.1 h3.2.2
    omega
theorem rangeN_s (n : Nat) (u : Unit) (hn : n ≤ 200) : spec_IntRange ((n : Int), u) () = some (iotaI n, ()) := by
  unfold spec_IntRange
  have hw : inB (n : Int) 0 200 = true := inB_iff.2 ⟨by omega, by omega⟩
  simp only [l01In_eq, some_bind', hw, notB_true, Bool.false_eq_true, if_false]
  have l0 := fun A : Type => (fold_loop (A := A) (F := spec_IntRange_L0) (fun i out => ((i : Int), (n : Int), out, ())) n (fun i out => out.length = i) (fun i out => out ++ [(i : Int)]) (fun out => Sum.inl (false, (n : Int), (n : Int), out, ())) (by omega)
    (fun i out hi ho => by
      have ha : addI out [(i : Int)] = some (out ++ [(i : Int)]) := addI_ok (by rw [room_eq]; simp; omega)
      constructor
      · unfold spec_IntRange_L0
        simp only [lt_yes hi, if_true, ha, some_bind', idxN hi (show n ≤ 1099511627776 by omega) (Nat.le_refl _)]
      · simp [ho])
    (fun out ho => by
      unfold spec_IntRange_L0
      simp only [lt_no, Bool.false_eq_true, if_false])
    (a := []) rfl).1
  have e0 : (((0 : Nat) : Int), (n : Int), ([] : List Int), ()) = ((0 : Int), (n : Int), ([] : List Int), ()) := rfl
  rw [e0] at l0
  have e1 := foldN_iota (fun (out : List Int) (x : Int) => out ++ [x]) n []
  simp only [l0, some_bind', e1, foldl_append, List.nil_append]
theorem rangeN_i : impl_IntRange = spec_IntRange := rfl
end Go.Proofs.YtafnhdfjcocpgaaGreat
