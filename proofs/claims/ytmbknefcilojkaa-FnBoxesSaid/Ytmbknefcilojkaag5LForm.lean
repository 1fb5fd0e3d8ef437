/-
  Plain laws: which schedules have the right form, in the program and in the reference; modes and ends. Condition: no list is longer than 2 to the 40.
-/
import Derived.Test.Ytmbknefcilojkaag5LProj2
namespace Go.Proofs.Ytmbknefcilojkaa
open Go.Abs
set_option linter.unusedVariables false
set_option linter.unusedSimpArgs false

def formI (p : D_Project) (s : D_Schedule) (i : Nat) : Bool := match p.2.1[i]?, s.1[i]?, s.2.1[i]? with
  | some a, some t, some m => inB t 0 60 && inB m 0 (subZ .i64 (lenI a.2.2.1) 1)
  | _, _, _ => true
def formB (p : D_Project) (s : D_Schedule) : Bool := projB p && eqZ (lenI s.1) (lenI p.2.1) && eqZ (lenI s.2.1) (lenI p.2.1) && (List.range p.2.1.length).all (formI p s)
theorem len_of_eqZ {α β : Type} {x : List α} {y : List β} (h : eqZ (lenI x) (lenI y) = true) : x.length = y.length := by
  rw [eqZ_dec, decide_eq_true_eq] at h
  exact Int.ofNat.inj h
/-- what a schedule of the right form has at a place -/
theorem form_at {p : D_Project} {s : D_Schedule} (hp : Sm_Project 1099511627776 p) (h : formB p s = true) {i : Nat} (hi : i < p.2.1.length) :
    ∃ (t : Int) (m : Nat) (md : D_Mode), getI s.1 (i : Int) = some t ∧ getI s.2.1 (i : Int) = some (m : Int) ∧ getI p.2.1[i].2.2.1 (m : Int) = some md ∧ md ∈ p.2.1[i].2.2.1 ∧ 0 ≤ t ∧ t ≤ 60 ∧ modeB md (lenI p.2.2.2.1) (lenI p.2.2.2.2.1) = true ∧ actB p.2.1[i] (lenI p.2.2.2.1) (lenI p.2.2.2.2.1) = true := by
  unfold formB at h
  simp only [Bool.and_eq_true] at h
  obtain ⟨⟨⟨h0, h1⟩, h2⟩, h3⟩ := h
  have e1 := len_of_eqZ h1
  have e2 := len_of_eqZ h2
  have hi1 : i < s.1.length := by omega
  have hi2 : i < s.2.1.length := by omega
  rw [List.all_eq_true] at h3
  have h4 := h3 i (by simpa using hi)
  unfold formI at h4
  rw [List.getElem?_eq_getElem hi, List.getElem?_eq_getElem hi1, List.getElem?_eq_getElem hi2] at h4
  simp only [Bool.and_eq_true] at h4
  obtain ⟨h5, h6⟩ := h4
  obtain ⟨m, hm, hml⟩ := inB_place (hp.2.1.2 _ (List.getElem_mem hi)).2.2.1.1 h6
  have h7 := inB_iff.1 h5
  have hact : actB p.2.1[i] (lenI p.2.2.2.1) (lenI p.2.2.2.2.1) = true := by
    unfold projB at h0
    simp only [Bool.and_eq_true] at h0
    have := h0.1.1.1.2
    rw [List.all_eq_true] at this
    have := this i (by simpa using hi)
    unfold actI at this
    rw [List.getElem?_eq_getElem hi] at this
    simp only [Bool.and_eq_true] at this
    exact this.1
  refine ⟨_, m, p.2.1[i].2.2.1[m], getI_lt hi1, by rw [getI_lt hi2, hm], getI_lt hml, List.getElem_mem hml, h7.1, h7.2, ?_, hact⟩
  unfold actB at hact
  simp only [Bool.and_eq_true] at hact
  exact List.all_eq_true.1 hact.1 _ (List.getElem_mem hml)
theorem proj_of_form {p : D_Project} {s : D_Schedule} (h : formB p s = true) : projB p = true := by
  unfold formB at h
  simp only [Bool.and_eq_true] at h
  exact h.1.1.1
end Go.Proofs.Ytmbknefcilojkaa
