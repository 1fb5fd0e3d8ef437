/-
  Plain laws: what is compared with itself is equal, in the program. Condition: no list is longer than 2 to the 40.
-/
import Derived.Test.YtmbknefcilojkaaN36
import Derived.Test.Ytmbknefcilojkaag3W
namespace Go.Proofs.Ytmbknefcilojkaa
open Go.Abs
set_option linter.unusedVariables false
set_option linter.unusedSimpArgs false

theorem all_true (n : Nat) : ((List.range n).all fun _ => true) = true := by simp
theorem self_int (l : List Int) (u : Unit) (hl : l.length ≤ 1099511627776) : slices_Equal_int_int (l, l, u) () = some (true, ()) := by
  have l0 := fun A : Type => allIS (A := A) (F := slices_Equal_int_int_L0) (fun i => ((i : Int), (l.length : Int), l, l, ())) (0, (l.length : Int), l, l, ()) l.length (fun _ => true) (Sum.inl (false, (l.length : Int), (l.length : Int), l, l, ())) (false, ()) rfl hl
    (fun i hi => by
      unfold slices_Equal_int_int_L0
      simp only [lt_yes hi, if_true, getI_lt hi, some_bind', eqZ_self, eqB_self, iteB, notB_true, Bool.false_eq_true, if_false, idxN hi hl (Nat.le_refl _)])
    (by unfold slices_Equal_int_int_L0; simp only [lt_no, Bool.false_eq_true, if_false])
  unfold slices_Equal_int_int
  simp only [lenI_eq, eqZ_self, notB_true, Bool.false_eq_true, if_false, l0, all_true, if_true, some_bind']
theorem self_Link (l : List D_Link) (u : Unit) (hl : l.length ≤ 1099511627776) : slices_Equal_impl_Link_impl_Link (l, l, u) () = some (true, ()) := by
  have l0 := fun A : Type => allIS (A := A) (F := slices_Equal_impl_Link_impl_Link_L0) (fun i => ((i : Int), (l.length : Int), l, l, ())) (0, (l.length : Int), l, l, ()) l.length (fun _ => true) (Sum.inl (false, (l.length : Int), (l.length : Int), l, l, ())) (false, ()) rfl hl
    (fun i hi => by
      unfold slices_Equal_impl_Link_impl_Link_L0
      simp only [lt_yes hi, if_true, getI_lt hi, some_bind', eqZ_self, eqB_self, iteB, notB_true, Bool.false_eq_true, if_false, idxN hi hl (Nat.le_refl _)])
    (by unfold slices_Equal_impl_Link_impl_Link_L0; simp only [lt_no, Bool.false_eq_true, if_false])
  unfold slices_Equal_impl_Link_impl_Link
  simp only [lenI_eq, eqZ_self, notB_true, Bool.false_eq_true, if_false, l0, all_true, if_true, some_bind']
theorem self_Step (l : List D_Step) (u : Unit) (hl : l.length ≤ 1099511627776) : slices_Equal_impl_Step_impl_Step (l, l, u) () = some (true, ()) := by
  have l0 := fun A : Type => allIS (A := A) (F := slices_Equal_impl_Step_impl_Step_L0) (fun i => ((i : Int), (l.length : Int), l, l, ())) (0, (l.length : Int), l, l, ()) l.length (fun _ => true) (Sum.inl (false, (l.length : Int), (l.length : Int), l, l, ())) (false, ()) rfl hl
    (fun i hi => by
      unfold slices_Equal_impl_Step_impl_Step_L0
      simp only [lt_yes hi, if_true, getI_lt hi, some_bind', eqZ_self, eqB_self, iteB, notB_true, Bool.false_eq_true, if_false, idxN hi hl (Nat.le_refl _)])
    (by unfold slices_Equal_impl_Step_impl_Step_L0; simp only [lt_no, Bool.false_eq_true, if_false])
  unfold slices_Equal_impl_Step_impl_Step
  simp only [lenI_eq, eqZ_self, notB_true, Bool.false_eq_true, if_false, l0, all_true, if_true, some_bind']
theorem selfF_Mode (l : List D_Mode) (f : (D_Mode × D_Mode × Unit) → Option Bool) (u : Unit) (hl : l.length ≤ 1099511627776) (hf : ∀ a ∈ l, f (a, a, ()) = some true) : slices_EqualFunc_impl_Mode_impl_Mode_impl_Mode_impl_Mode (l, l, f, u) () = some (true, ()) := by
  have l0 := fun A : Type => allIS (A := A) (F := slices_EqualFunc_impl_Mode_impl_Mode_impl_Mode_impl_Mode_L0) (fun i => ((i : Int), (l.length : Int), l, l, f, ())) (0, (l.length : Int), l, l, f, ()) l.length (fun _ => true) (Sum.inl (false, (l.length : Int), (l.length : Int), l, l, f, ())) (false, ()) rfl hl
    (fun i hi => by
      unfold slices_EqualFunc_impl_Mode_impl_Mode_impl_Mode_impl_Mode_L0
      simp only [lt_yes hi, if_true, getI_lt hi, some_bind', hf _ (List.getElem_mem hi), notB_true, Bool.false_eq_true, if_false, idxN hi hl (Nat.le_refl _)])
    (by unfold slices_EqualFunc_impl_Mode_impl_Mode_impl_Mode_impl_Mode_L0; simp only [lt_no, Bool.false_eq_true, if_false])
  unfold slices_EqualFunc_impl_Mode_impl_Mode_impl_Mode_impl_Mode
  simp only [lenI_eq, eqZ_self, notB_true, Bool.false_eq_true, if_false, l0, all_true, if_true, some_bind']
theorem selfF_Activity (l : List D_Activity) (f : (D_Activity × D_Activity × Unit) → Option Bool) (u : Unit) (hl : l.length ≤ 1099511627776) (hf : ∀ a ∈ l, f (a, a, ()) = some true) : slices_EqualFunc_impl_Activity_impl_Activity_impl_Activity_impl_Activity (l, l, f, u) () = some (true, ()) := by
  have l0 := fun A : Type => allIS (A := A) (F := slices_EqualFunc_impl_Activity_impl_Activity_impl_Activity_impl_Activity_L0) (fun i => ((i : Int), (l.length : Int), l, l, f, ())) (0, (l.length : Int), l, l, f, ()) l.length (fun _ => true) (Sum.inl (false, (l.length : Int), (l.length : Int), l, l, f, ())) (false, ()) rfl hl
    (fun i hi => by
      unfold slices_EqualFunc_impl_Activity_impl_Activity_impl_Activity_impl_Activity_L0
      simp only [lt_yes hi, if_true, getI_lt hi, some_bind', hf _ (List.getElem_mem hi), notB_true, Bool.false_eq_true, if_false, idxN hi hl (Nat.le_refl _)])
    (by unfold slices_EqualFunc_impl_Activity_impl_Activity_impl_Activity_impl_Activity_L0; simp only [lt_no, Bool.false_eq_true, if_false])
  unfold slices_EqualFunc_impl_Activity_impl_Activity_impl_Activity_impl_Activity
  simp only [lenI_eq, eqZ_self, notB_true, Bool.false_eq_true, if_false, l0, all_true, if_true, some_bind']
theorem selfF_Resource (l : List D_Resource) (f : (D_Resource × D_Resource × Unit) → Option Bool) (u : Unit) (hl : l.length ≤ 1099511627776) (hf : ∀ a ∈ l, f (a, a, ()) = some true) : slices_EqualFunc_impl_Resource_impl_Resource_impl_Resource_impl_Resource (l, l, f, u) () = some (true, ()) := by
  have l0 := fun A : Type => allIS (A := A) (F := slices_EqualFunc_impl_Resource_impl_Resource_impl_Resource_impl_Resource_L0) (fun i => ((i : Int), (l.length : Int), l, l, f, ())) (0, (l.length : Int), l, l, f, ()) l.length (fun _ => true) (Sum.inl (false, (l.length : Int), (l.length : Int), l, l, f, ())) (false, ()) rfl hl
    (fun i hi => by
      unfold slices_EqualFunc_impl_Resource_impl_Resource_impl_Resource_impl_Resource_L0
      simp only [lt_yes hi, if_true, getI_lt hi, some_bind', hf _ (List.getElem_mem hi), notB_true, Bool.false_eq_true, if_false, idxN hi hl (Nat.le_refl _)])
    (by unfold slices_EqualFunc_impl_Resource_impl_Resource_impl_Resource_impl_Resource_L0; simp only [lt_no, Bool.false_eq_true, if_false])
  unfold slices_EqualFunc_impl_Resource_impl_Resource_impl_Resource_impl_Resource
  simp only [lenI_eq, eqZ_self, notB_true, Bool.false_eq_true, if_false, l0, all_true, if_true, some_bind']
theorem selfF_ints (l : List (List Int)) (f : ((List Int) × (List Int) × Unit) → Option Bool) (u : Unit) (hl : l.length ≤ 1099511627776) (hf : ∀ a ∈ l, f (a, a, ()) = some true) : slices_EqualFunc_int_int_int_int (l, l, f, u) () = some (true, ()) := by
  have l0 := fun A : Type => allIS (A := A) (F := slices_EqualFunc_int_int_int_int_L0) (fun i => ((i : Int), (l.length : Int), l, l, f, ())) (0, (l.length : Int), l, l, f, ()) l.length (fun _ => true) (Sum.inl (false, (l.length : Int), (l.length : Int), l, l, f, ())) (false, ()) rfl hl
    (fun i hi => by
      unfold slices_EqualFunc_int_int_int_int_L0
      simp only [lt_yes hi, if_true, getI_lt hi, some_bind', hf _ (List.getElem_mem hi), notB_true, Bool.false_eq_true, if_false, idxN hi hl (Nat.le_refl _)])
    (by unfold slices_EqualFunc_int_int_int_int_L0; simp only [lt_no, Bool.false_eq_true, if_false])
  unfold slices_EqualFunc_int_int_int_int
  simp only [lenI_eq, eqZ_self, notB_true, Bool.false_eq_true, if_false, l0, all_true, if_true, some_bind']
theorem sameMode_self (m : D_Mode) (u : Unit) (h : Sm_Mode 1099511627776 m) : impl_sameMode (m, m, u) () = some (true, ()) := by
  unfold impl_sameMode
  simp only [eqZ_self, if_true, self_int _ _ h.2.1.1, self_int _ _ h.2.2.1.1, some_bind']
theorem sameResource_self (r : D_Resource) (u : Unit) (h : Sm_Resource 1099511627776 r) : impl_sameResource (r, r, u) () = some (true, ()) := by
  unfold impl_sameResource
  simp only [self_Step _ _ h.1.1, if_true, some_bind']
  rw [selfF_ints _ _ () h.2.1.1 (fun a ha => by simp only [self_int _ _ (h.2.1.2 a ha).1, some_bind'])]
  simp only [some_bind']
theorem ActivityEqual_self (a : D_Activity) (u : Unit) (h : Sm_Activity 1099511627776 a) : impl_ActivityEqual (a, a, u) () = some (true, ()) := by
  unfold impl_ActivityEqual
  simp only [eqZ_self, eqS_self, if_true]
  rw [selfF_Mode _ _ () h.2.2.1.1 (fun m hm => by simp only [sameMode_self _ _ (h.2.2.1.2 m hm), some_bind'])]
  simp only [some_bind']
theorem ProjectEqual_self (p : D_Project) (u : Unit) (h : Sm_Project 1099511627776 p) : impl_ProjectEqual (p, p, u) () = some (true, ()) := by
  unfold impl_ProjectEqual
  simp only [eqZ_self, if_true]
  rw [selfF_Activity _ _ () h.2.1.1 (fun m hm => by simp only [ActivityEqual_self _ _ (h.2.1.2 m hm), some_bind'])]
  simp only [some_bind', if_true, self_Link _ _ h.2.2.1.1]
  rw [selfF_Resource _ _ () h.2.2.2.1.1 (fun m hm => by simp only [sameResource_self _ _ (h.2.2.2.1.2 m hm), some_bind'])]
  simp only [some_bind', if_true, self_int _ _ h.2.2.2.2.1.1]
end Go.Proofs.Ytmbknefcilojkaa
