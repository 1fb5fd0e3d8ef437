/-
  Plain laws: schedules as text, in the program and in the reference. Condition: no list is longer than 2 to the 40.
-/
import Derived.Test.YtholdafohofboaaGreatDoore5LForm
import Derived.Test.YtholdafohofboaaGreatDoore5LFmt
import Derived.Test.YtholdafohofboaaGreatDoore5LJoin
namespace Go.Proofs.YtholdafohofboaaGreatDoor
open Go.Abs
set_option linter.unusedVariables false
set_option linter.unusedSimpArgs false

theorem proj_nameS {p : D_Project} (h : projB p = true) {i : Nat} (hi : i < p.2.1.length) : p.2.1[i].1.length ≤ 8 := by
  unfold projB at h
  simp only [Bool.and_eq_true] at h
  have h1 := List.all_eq_true.1 h.1.1.1.2 i (by simpa using hi)
  unfold actI at h1
  rw [List.getElem?_eq_getElem hi] at h1
  simp only [Bool.and_eq_true] at h1
  have h2 := h1.1
  unfold actB at h2
  simp only [Bool.and_eq_true] at h2
  have h3 := h2.2.1.1
  unfold nameB at h3
  simp only [Bool.and_eq_true] at h3
  have := inB_iff.1 h3.2
  omega
theorem proj_actsF {p : D_Project} (h : projB p = true) : 1 ≤ p.2.1.length ∧ p.2.1.length ≤ 6 := by
  unfold projB at h
  simp only [Bool.and_eq_true] at h
  have := inB_iff.1 h.1.1.1.1.1.1.1.2
  rw [lenI_eq] at this
  omega
/-- an activity's word -/
def wordV (p : D_Project) (s : D_Schedule) (i : Nat) : List UInt8 := (match p.2.1[i]? with | some a => a.1 | none => []) ++ ([64] ++ (fmtV ((s.1[i]?).getD 0) ++ ([47] ++ fmtV ((s.2.1[i]?).getD 0))))
def wordsV (p : D_Project) (s : D_Schedule) : Nat → List (List UInt8)
  | 0 => []
  | k + 1 => wordsV p s k ++ [wordV p s k]
theorem wordsV_len (p : D_Project) (s : D_Schedule) : ∀ k, (wordsV p s k).length = k
  | 0 => rfl
  | k + 1 => by simp [wordsV, wordsV_len p s k]
theorem wordV_len {p : D_Project} {s : D_Schedule} (h : projB p = true) {i : Nat} (hi : i < p.2.1.length) : (wordV p s i).length ≤ 24 := by
  have h1 := proj_nameS h hi
  have h2 := fmtV_len ((s.1[i]?).getD 0)
  have h3 := fmtV_len ((s.2.1[i]?).getD 0)
  unfold wordV
  rw [List.getElem?_eq_getElem hi]
  simp only [List.length_append, List.length_singleton]
  omega
theorem wordsV_mem {p : D_Project} {s : D_Schedule} (h : projB p = true) : ∀ k, k ≤ p.2.1.length → ∀ x ∈ wordsV p s k, x.length ≤ 24
  | 0, _, x, hx => by simp [wordsV] at hx
  | k + 1, hk, x, hx => by
    rcases List.mem_append.1 hx with hx | hx
    · exact wordsV_mem h k (by omega) x hx
    · rw [List.mem_singleton.1 hx]
      exact wordV_len h (by omega)
def schText (p : D_Project) (s : D_Schedule) : List UInt8 := if formB p s = true then Lib.join (wordsV p s p.2.1.length) [32] else []
theorem schText_len (p : D_Project) (s : D_Schedule) : (schText p s).length ≤ 1000 := by
  unfold schText
  split
  · rename_i h
    have hp := proj_of_form h
    have hn := proj_actsF hp
    have := join_len (B := 25) (xs := wordsV p s p.2.1.length) (sep := [32]) fun x hx => by
      have := wordsV_mem hp _ (Nat.le_refl _) x hx
      simp only [List.length_singleton]
      omega
    rw [wordsV_len] at this
    omega
  · simp
theorem FormatSchedule_both (p : D_Project) (s : D_Schedule) (hp : Sm_Project 1099511627776 p) : (∀ u, spec_FormatSchedule (p, s, u) () = some (schText p s, ())) ∧ ∀ u, impl_FormatSchedule (p, s, u) () = some (schText p s, ()) := by
  have ad : ∀ x y : List UInt8, x.length ≤ 1000 → y.length ≤ 1000 → addI x y = some (x ++ y) := fun x y h1 h2 => addI_ok (by rw [room_eq]; omega)
  rcases tf (formB p s) with h | h
  · constructor <;> intro u
    · unfold spec_FormatSchedule schText
      simp only [ScheduleForm_spec _ _ _ hp, some_bind', h]
      simp [notB]
    · unfold impl_FormatSchedule schText
      simp only [ScheduleForm_impl _ _ _ hp, some_bind', h]
      simp [notB]
  · have hok := proj_of_form h
    have hn := proj_actsF hok
    have hj : (∀ u, spec_Join (wordsV p s p.2.1.length, [32], u) () = some (schText p s, ())) ∧ ∀ u, strings_Join (wordsV p s p.2.1.length, [32], u) () = some (schText p s, ()) := by
      unfold schText
      rw [if_pos h]
      refine ⟨fun u => Join_spec _ _ u (by rw [wordsV_len]; omega) (fun x hx => ?_) (by simp), fun u => Join_impl _ _ u (by rw [wordsV_len]; omega) (fun x hx => ?_) (by simp)⟩ <;> (have := wordsV_mem hok _ (Nat.le_refl _) x hx; omega)
    have e1 : s.1.length = p.2.1.length := by
      unfold formB at h
      simp only [Bool.and_eq_true] at h
      exact len_of_eqZ h.1.1.2
    have e2 : s.2.1.length = p.2.1.length := by
      unfold formB at h
      simp only [Bool.and_eq_true] at h
      exact len_of_eqZ h.1.2
    have wd : ∀ i (hi : i < p.2.1.length), ∃ x k, getI s.1 (i : Int) = some x ∧ getI s.2.1 (i : Int) = some k ∧ wordV p s i = p.2.1[i].1 ++ ([64] ++ (fmtV x ++ ([47] ++ fmtV k))) := fun i hi => by
      refine ⟨s.1[i], s.2.1[i], getI_lt (by omega), getI_lt (by omega), ?_⟩
      unfold wordV
      rw [List.getElem?_eq_getElem hi, List.getElem?_eq_getElem (show i < s.1.length by omega), List.getElem?_eq_getElem (show i < s.2.1.length by omega)]
      rfl
    have aw : ∀ (out : List (List UInt8)) (x : List UInt8), out.length ≤ 100 → addI out [x] = some (out ++ [x]) := fun out x h => addI_ok (by rw [room_eq]; simp; omega)
    have parts : ∀ i (hi : i < p.2.1.length) (x k : Int), addI p.2.1[i].1 [64] = some (p.2.1[i].1 ++ [64]) ∧ addI (p.2.1[i].1 ++ [64]) (fmtV x) = some (p.2.1[i].1 ++ ([64] ++ fmtV x)) ∧ addI (p.2.1[i].1 ++ ([64] ++ fmtV x)) [47] = some (p.2.1[i].1 ++ ([64] ++ (fmtV x ++ [47]))) ∧
        addI (p.2.1[i].1 ++ ([64] ++ (fmtV x ++ [47]))) (fmtV k) = some (p.2.1[i].1 ++ ([64] ++ (fmtV x ++ ([47] ++ fmtV k)))) := fun i hi x k => by
      have h1 := proj_nameS hok hi
      have h2 := fmtV_len x
      have h3 := fmtV_len k
      refine ⟨ad _ _ (by omega) (by simp), ?_, ?_, ?_⟩
      · rw [ad _ _ (by simp only [List.length_append, List.length_singleton]; omega) (by omega)]; simp only [List.append_assoc]
      · rw [ad _ _ (by simp only [List.length_append, List.length_singleton]; omega) (by simp)]; simp only [List.append_assoc]
      · rw [ad _ _ (by simp only [List.length_append, List.length_singleton]; omega) (by omega)]; simp only [List.append_assoc]
    constructor <;> intro u
    · have l0 := fun A : Type => fold_loop (A := A) (F := spec_FormatSchedule_L0) (fun i (out : List (List UInt8)) => ((i : Int), (p.2.1.length : Int), p.2.1, s, out, ())) p.2.1.length (fun i out => out = wordsV p s i) (fun i _ => wordsV p s (i + 1))
        (fun out => Sum.inl (false, (p.2.1.length : Int), (p.2.1.length : Int), p.2.1, s, out, ())) (by omega)
        (fun i out hi ho => by
          subst ho
          obtain ⟨x, k, g1, g2, ew⟩ := wd i hi
          obtain ⟨a1, a2, a3, a4⟩ := parts i hi x k
          have a5 := aw (wordsV p s i) (p.2.1[i].1 ++ ([64] ++ (fmtV x ++ ([47] ++ fmtV k)))) (by rw [wordsV_len]; omega)
          refine ⟨?_, rfl⟩
          unfold spec_FormatSchedule_L0
          simp only [lt_yes hi, if_true, getI_lt hi, g1, g2, some_bind', FormatInt_spec, a1, a2, a3, a4, a5, wordsV, ew, idxN hi (Nat.le_refl _) (show p.2.1.length ≤ 1099511627776 by omega)])
        (fun out _ => by
          unfold spec_FormatSchedule_L0
          simp only [lt_no, Bool.false_eq_true, if_false])
        (a := []) rfl
      have hI := (l0 Unit).2
      have l1 := fun A : Type => (l0 A).1
      rw [hI] at l1
      have e0 : (((0 : Nat) : Int), (p.2.1.length : Int), p.2.1, s, ([] : List (List UInt8)), ()) = ((0 : Int), (p.2.1.length : Int), p.2.1, s, ([] : List (List UInt8)), ()) := rfl
      rw [e0] at l1
      unfold spec_FormatSchedule
      simp only [ScheduleForm_spec _ _ _ hp, some_bind', h, notB_true, Bool.false_eq_true, if_false, lenI_eq, l1, hj.1]
    · have l0 := fun A : Type => fold_loop (A := A) (F := impl_FormatSchedule_L0) (fun i (out : List (List UInt8)) => ((i : Int), (p.2.1.length : Int), p.2.1, s, out, ())) p.2.1.length (fun i out => out = wordsV p s i) (fun i _ => wordsV p s (i + 1))
        (fun out => Sum.inl (false, (p.2.1.length : Int), (p.2.1.length : Int), p.2.1, s, out, ())) (by omega)
        (fun i out hi ho => by
          subst ho
          obtain ⟨x, k, g1, g2, ew⟩ := wd i hi
          obtain ⟨a1, a2, a3, a4⟩ := parts i hi x k
          have a5 := aw (wordsV p s i) (p.2.1[i].1 ++ ([64] ++ (fmtV x ++ ([47] ++ fmtV k)))) (by rw [wordsV_len]; omega)
          refine ⟨?_, rfl⟩
          unfold impl_FormatSchedule_L0
          simp only [lt_yes hi, if_true, getI_lt hi, g1, g2, some_bind', FormatInt_impl, a1, a2, a3, a4, a5, wordsV, ew, idxN hi (Nat.le_refl _) (show p.2.1.length ≤ 1099511627776 by omega)])
        (fun out _ => by
          unfold impl_FormatSchedule_L0
          simp only [lt_no, Bool.false_eq_true, if_false])
        (a := []) rfl
      have hI := (l0 Unit).2
      have l1 := fun A : Type => (l0 A).1
      rw [hI] at l1
      have e0 : (((0 : Nat) : Int), (p.2.1.length : Int), p.2.1, s, ([] : List (List UInt8)), ()) = ((0 : Int), (p.2.1.length : Int), p.2.1, s, ([] : List (List UInt8)), ()) := rfl
      rw [e0] at l1
      unfold impl_FormatSchedule
      simp only [ScheduleForm_impl _ _ _ hp, some_bind', h, notB_true, Bool.false_eq_true, if_false, lenI_eq, l1, hj.2]
end Go.Proofs.YtholdafohofboaaGreatDoor
