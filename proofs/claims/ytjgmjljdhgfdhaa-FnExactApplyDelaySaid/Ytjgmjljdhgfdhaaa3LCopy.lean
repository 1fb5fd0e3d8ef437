/-
  Plain laws: a project copied, in the program and in the reference, is the project. Condition: no list is longer than 2 to the 20.
-/
import Derived.Test.YtjgmjljdhgfdhaaN35
import Derived.Test.Ytjgmjljdhgfdhaaa3W
namespace Go.Proofs.Ytjgmjljdhgfdhaa
open Go.Abs
set_option linter.unusedVariables false
set_option linter.unusedSimpArgs false

theorem addNil {α : Type} (x : List α) (h : x.length ≤ 1048576) : addI [] x = some x := by
  rw [addI_ok (by rw [room_eq]; simp; omega)]
  rfl
theorem addOne {α : Type} (x : List α) (y : α) (h : x.length ≤ 1048576) : addI x [y] = some (x ++ [y]) := addI_ok (by rw [room_eq]; simp; omega)
abbrev zeroP : D_Project := (0, [], [], [], [], ())
theorem clone_int (x : List Int) (u : Unit) (h : x.length ≤ 1048576) : slices_Clone_int_int (x, u) () = some (x, ()) := by
  unfold slices_Clone_int_int
  simp only [addNil x h, some_bind']
theorem clone_Link (x : List D_Link) (u : Unit) (h : x.length ≤ 1048576) : slices_Clone_impl_Link_impl_Link (x, u) () = some (x, ()) := by
  unfold slices_Clone_impl_Link_impl_Link
  simp only [addNil x h, some_bind']
theorem clone_Step (x : List D_Step) (u : Unit) (h : x.length ≤ 1048576) : slices_Clone_impl_Step_impl_Step (x, u) () = some (x, ()) := by
  unfold slices_Clone_impl_Step_impl_Step
  simp only [addNil x h, some_bind']

theorem l04Copy_eq (a : D_Activity) (u : Unit) (h : Sm_Activity 1048576 a) : spec_l04Copy (a, u) () = some (a, ()) := by
  have hl := h.2.2.1.1
  have l0 := fun A : Type => (fold_list (A := A) (F := spec_l04Copy_L0) (fun i out => ((i : Int), lenI a.2.2.1, a.2.2.1, (a.1, a.2.1, out, ()), ([], 0, [], ()), ())) a.2.2.1 (fun i out => out.length = i) (fun out m => out ++ [m]) (fun out => Sum.inl (false, lenI a.2.2.1, lenI a.2.2.1, a.2.2.1, (a.1, a.2.1, out, ()), ([], 0, [], ()), ())) (by omega)
    (fun i out hi ho => by
      have hm := h.2.2.1.2 _ (List.getElem_mem hi)
      have hlt : ltZ (i : Int) (lenI a.2.2.1) = true := lt_yes hi
      refine ⟨?_, by simp [ho]⟩
      unfold spec_l04Copy_L0
      simp only [hlt, if_true, getI_lt hi, some_bind', addNil _ hm.2.1.1, addNil _ hm.2.2.1.1, addOne out _ (show out.length ≤ 1048576 by omega), idxN hi (show a.2.2.1.length ≤ 1099511627776 by omega) (Nat.le_refl _)])
    (fun out ho => by
      have hlt : ltZ (a.2.2.1.length : Int) (lenI a.2.2.1) = false := lt_no _
      unfold spec_l04Copy_L0
      simp only [hlt, Bool.false_eq_true, if_false]
      rfl)
    (a := []) (s := (0, lenI a.2.2.1, a.2.2.1, (a.1, a.2.1, [], ()), ([], 0, [], ()), ())) rfl rfl).1
  unfold spec_l04Copy
  simp only [l0, some_bind', foldl_append, List.nil_append]
theorem l05Copy_eq (p : D_Project) (u : Unit) (h : Sm_Project 1048576 p) : spec_l05Copy (p, u) () = some (p, ()) := by
  obtain ⟨-, ⟨ha, hA⟩, ⟨hk, -⟩, ⟨hr, hR⟩, ⟨hs, -⟩, -⟩ := h
  have l0 := fun A : Type => (fold_list (A := A) (F := spec_l05Copy_L0) (fun i out => ((i : Int), lenI p.2.1, p.2.1, p, (p.1, out, p.2.2.1, [], p.2.2.2.2.1, ()), zeroP, ())) p.2.1 (fun i out => out.length = i) (fun out a => out ++ [a]) (fun out => Sum.inl (false, lenI p.2.1, lenI p.2.1, p.2.1, p, (p.1, out, p.2.2.1, [], p.2.2.2.2.1, ()), zeroP, ())) (by omega)
    (fun i out hi ho => by
      have hlt : ltZ (i : Int) (lenI p.2.1) = true := lt_yes hi
      refine ⟨?_, by simp [ho]⟩
      unfold spec_l05Copy_L0
      simp only [hlt, if_true, getI_lt hi, some_bind', l04Copy_eq _ _ (hA _ (List.getElem_mem hi)), addOne out _ (show out.length ≤ 1048576 by omega), idxN hi (show p.2.1.length ≤ 1099511627776 by omega) (Nat.le_refl _)])
    (fun out ho => by
      have hlt : ltZ (p.2.1.length : Int) (lenI p.2.1) = false := lt_no _
      unfold spec_l05Copy_L0
      simp only [hlt, Bool.false_eq_true, if_false]
      rfl)
    (a := []) (s := (0, lenI p.2.1, p.2.1, p, (p.1, [], p.2.2.1, [], p.2.2.2.2.1, ()), zeroP, ())) rfl rfl).1
  have l1 := fun A : Type => (fold_list (A := A) (F := spec_l05Copy_L2) (fun i out => ((i : Int), lenI p.2.2.2.1, p.2.2.2.1, (p.1, p.2.1, p.2.2.1, out, p.2.2.2.2.1, ()), zeroP, ())) p.2.2.2.1 (fun i out => out.length = i) (fun out a => out ++ [a]) (fun out => Sum.inl (false, lenI p.2.2.2.1, lenI p.2.2.2.1, p.2.2.2.1, (p.1, p.2.1, p.2.2.1, out, p.2.2.2.2.1, ()), zeroP, ())) (by omega)
    (fun i out hi ho => by
      have hm := hR _ (List.getElem_mem hi)
      have hlt : ltZ (i : Int) (lenI p.2.2.2.1) = true := lt_yes hi
      refine ⟨?_, by simp [ho]⟩
      have l2 := fun A : Type => (fold_list (A := A) (F := spec_l05Copy_L1) (fun j rows => ((j : Int), lenI p.2.2.2.1[i].2.1, p.2.2.2.1[i].2.1, (p.2.2.2.1[i].1, rows, ()), (i : Int), lenI p.2.2.2.1, p.2.2.2.1, (p.1, p.2.1, p.2.2.1, out, p.2.2.2.2.1, ()), zeroP, ())) p.2.2.2.1[i].2.1 (fun j rows => rows.length = j) (fun rows row => rows ++ [row]) (fun rows => Sum.inl (false, lenI p.2.2.2.1[i].2.1, lenI p.2.2.2.1[i].2.1, p.2.2.2.1[i].2.1, (p.2.2.2.1[i].1, rows, ()), (i : Int), lenI p.2.2.2.1, p.2.2.2.1, (p.1, p.2.1, p.2.2.1, out, p.2.2.2.2.1, ()), zeroP, ())) (by have := hm.2.1.1; omega)
        (fun j rows hj hro => by
          have hq := hm.2.1.2 _ (List.getElem_mem hj)
          have hn := hm.2.1.1
          have hlt : ltZ (j : Int) (lenI p.2.2.2.1[i].2.1) = true := lt_yes hj
          refine ⟨?_, by simp [hro]⟩
          unfold spec_l05Copy_L1
          simp only [hlt, if_true, getI_lt hj, some_bind', addNil _ hq.1, addOne rows _ (show rows.length ≤ 1048576 by omega), idxN hj (show p.2.2.2.1[i].2.1.length ≤ 1099511627776 by omega) (Nat.le_refl _)])
        (fun rows hro => by
          have hlt : ltZ (p.2.2.2.1[i].2.1.length : Int) (lenI p.2.2.2.1[i].2.1) = false := lt_no _
          unfold spec_l05Copy_L1
          simp only [hlt, Bool.false_eq_true, if_false]
          rfl)
        (a := []) (s := (0, lenI p.2.2.2.1[i].2.1, p.2.2.2.1[i].2.1, (p.2.2.2.1[i].1, [], ()), (i : Int), lenI p.2.2.2.1, p.2.2.2.1, (p.1, p.2.1, p.2.2.1, out, p.2.2.2.2.1, ()), zeroP, ())) rfl rfl).1
      unfold spec_l05Copy_L2
      simp only [hlt, if_true, getI_lt hi, some_bind', addNil _ hm.1.1, l2, foldl_append, List.nil_append, addOne out _ (show out.length ≤ 1048576 by omega), idxN hi (show p.2.2.2.1.length ≤ 1099511627776 by omega) (Nat.le_refl _)])
    (fun out ho => by
      have hlt : ltZ (p.2.2.2.1.length : Int) (lenI p.2.2.2.1) = false := lt_no _
      unfold spec_l05Copy_L2
      simp only [hlt, Bool.false_eq_true, if_false]
      rfl)
    (a := []) (s := (0, lenI p.2.2.2.1, p.2.2.2.1, (p.1, p.2.1, p.2.2.1, [], p.2.2.2.2.1, ()), zeroP, ())) rfl rfl).1
  unfold spec_l05Copy
  simp only [addNil _ hk, addNil _ hs, l0, l1, some_bind', foldl_append, List.nil_append]
theorem copied_eq (p : D_Project) (u : Unit) (h : Sm_Project 1048576 p) : impl_Project_copied (p, u) () = some (p, ()) := by
  obtain ⟨-, ⟨ha, hA⟩, ⟨hk, -⟩, ⟨hr, hR⟩, ⟨hs, -⟩, -⟩ := h
  have l0 := fun A : Type => (fold_list (A := A) (F := impl_Project_copied_L1) (fun i out => ((i : Int), lenI p.2.1, p.2.1, p, (p.1, out, p.2.2.1, [], p.2.2.2.2.1, ()), zeroP, ())) p.2.1 (fun i out => out.length = i) (fun out a => out ++ [a]) (fun out => Sum.inl (false, lenI p.2.1, lenI p.2.1, p.2.1, p, (p.1, out, p.2.2.1, [], p.2.2.2.2.1, ()), zeroP, ())) (by omega)
    (fun i out hi ho => by
      have hm := hA _ (List.getElem_mem hi)
      have hn := hm.2.2.1.1
      have hlt : ltZ (i : Int) (lenI p.2.1) = true := lt_yes hi
      refine ⟨?_, by simp [ho]⟩
      have l2 := fun A : Type => (fold_list (A := A) (F := impl_Project_copied_L0) (fun j ms => ((j : Int), lenI p.2.1[i].2.2.1, p.2.1[i].2.2.1, (p.2.1[i].1, p.2.1[i].2.1, ms, ()), (i : Int), lenI p.2.1, p.2.1, p, (p.1, out, p.2.2.1, [], p.2.2.2.2.1, ()), zeroP, ())) p.2.1[i].2.2.1 (fun j ms => ms.length = j) (fun ms m => ms ++ [m]) (fun ms => Sum.inl (false, lenI p.2.1[i].2.2.1, lenI p.2.1[i].2.2.1, p.2.1[i].2.2.1, (p.2.1[i].1, p.2.1[i].2.1, ms, ()), (i : Int), lenI p.2.1, p.2.1, p, (p.1, out, p.2.2.1, [], p.2.2.2.2.1, ()), zeroP, ())) (by omega)
        (fun j ms hj hro => by
          have hq := hm.2.2.1.2 _ (List.getElem_mem hj)
          have hlt : ltZ (j : Int) (lenI p.2.1[i].2.2.1) = true := lt_yes hj
          refine ⟨?_, by simp [hro]⟩
          unfold impl_Project_copied_L0
          simp only [hlt, if_true, getI_lt hj, some_bind', clone_int _ _ hq.2.1.1, clone_int _ _ hq.2.2.1.1, addOne ms _ (show ms.length ≤ 1048576 by omega), idxN hj (show p.2.1[i].2.2.1.length ≤ 1099511627776 by omega) (Nat.le_refl _)])
        (fun ms hro => by
          have hlt : ltZ (p.2.1[i].2.2.1.length : Int) (lenI p.2.1[i].2.2.1) = false := lt_no _
          unfold impl_Project_copied_L0
          simp only [hlt, Bool.false_eq_true, if_false]
          rfl)
        (a := []) (s := (0, lenI p.2.1[i].2.2.1, p.2.1[i].2.2.1, (p.2.1[i].1, p.2.1[i].2.1, [], ()), (i : Int), lenI p.2.1, p.2.1, p, (p.1, out, p.2.2.1, [], p.2.2.2.2.1, ()), zeroP, ())) rfl rfl).1
      unfold impl_Project_copied_L1
      simp only [hlt, if_true, getI_lt hi, some_bind', l2, foldl_append, List.nil_append, addOne out _ (show out.length ≤ 1048576 by omega), idxN hi (show p.2.1.length ≤ 1099511627776 by omega) (Nat.le_refl _)])
    (fun out ho => by
      have hlt : ltZ (p.2.1.length : Int) (lenI p.2.1) = false := lt_no _
      unfold impl_Project_copied_L1
      simp only [hlt, Bool.false_eq_true, if_false]
      rfl)
    (a := []) (s := (0, lenI p.2.1, p.2.1, p, (p.1, [], p.2.2.1, [], p.2.2.2.2.1, ()), zeroP, ())) rfl rfl).1
  have l1 := fun A : Type => (fold_list (A := A) (F := impl_Project_copied_L3) (fun i out => ((i : Int), lenI p.2.2.2.1, p.2.2.2.1, (p.1, p.2.1, p.2.2.1, out, p.2.2.2.2.1, ()), zeroP, ())) p.2.2.2.1 (fun i out => out.length = i) (fun out a => out ++ [a]) (fun out => Sum.inl (false, lenI p.2.2.2.1, lenI p.2.2.2.1, p.2.2.2.1, (p.1, p.2.1, p.2.2.1, out, p.2.2.2.2.1, ()), zeroP, ())) (by omega)
    (fun i out hi ho => by
      have hm := hR _ (List.getElem_mem hi)
      have hlt : ltZ (i : Int) (lenI p.2.2.2.1) = true := lt_yes hi
      refine ⟨?_, by simp [ho]⟩
      have l2 := fun A : Type => (fold_list (A := A) (F := impl_Project_copied_L2) (fun j rows => ((j : Int), lenI p.2.2.2.1[i].2.1, p.2.2.2.1[i].2.1, (p.2.2.2.1[i].1, rows, ()), (i : Int), lenI p.2.2.2.1, p.2.2.2.1, (p.1, p.2.1, p.2.2.1, out, p.2.2.2.2.1, ()), zeroP, ())) p.2.2.2.1[i].2.1 (fun j rows => rows.length = j) (fun rows row => rows ++ [row]) (fun rows => Sum.inl (false, lenI p.2.2.2.1[i].2.1, lenI p.2.2.2.1[i].2.1, p.2.2.2.1[i].2.1, (p.2.2.2.1[i].1, rows, ()), (i : Int), lenI p.2.2.2.1, p.2.2.2.1, (p.1, p.2.1, p.2.2.1, out, p.2.2.2.2.1, ()), zeroP, ())) (by have := hm.2.1.1; omega)
        (fun j rows hj hro => by
          have hq := hm.2.1.2 _ (List.getElem_mem hj)
          have hn := hm.2.1.1
          have hlt : ltZ (j : Int) (lenI p.2.2.2.1[i].2.1) = true := lt_yes hj
          refine ⟨?_, by simp [hro]⟩
          unfold impl_Project_copied_L2
          simp only [hlt, if_true, getI_lt hj, some_bind', clone_int _ _ hq.1, addOne rows _ (show rows.length ≤ 1048576 by omega), idxN hj (show p.2.2.2.1[i].2.1.length ≤ 1099511627776 by omega) (Nat.le_refl _)])
        (fun rows hro => by
          have hlt : ltZ (p.2.2.2.1[i].2.1.length : Int) (lenI p.2.2.2.1[i].2.1) = false := lt_no _
          unfold impl_Project_copied_L2
          simp only [hlt, Bool.false_eq_true, if_false]
          rfl)
        (a := []) (s := (0, lenI p.2.2.2.1[i].2.1, p.2.2.2.1[i].2.1, (p.2.2.2.1[i].1, [], ()), (i : Int), lenI p.2.2.2.1, p.2.2.2.1, (p.1, p.2.1, p.2.2.1, out, p.2.2.2.2.1, ()), zeroP, ())) rfl rfl).1
      unfold impl_Project_copied_L3
      simp only [hlt, if_true, getI_lt hi, some_bind', clone_Step _ _ hm.1.1, l2, foldl_append, List.nil_append, addOne out _ (show out.length ≤ 1048576 by omega), idxN hi (show p.2.2.2.1.length ≤ 1099511627776 by omega) (Nat.le_refl _)])
    (fun out ho => by
      have hlt : ltZ (p.2.2.2.1.length : Int) (lenI p.2.2.2.1) = false := lt_no _
      unfold impl_Project_copied_L3
      simp only [hlt, Bool.false_eq_true, if_false]
      rfl)
    (a := []) (s := (0, lenI p.2.2.2.1, p.2.2.2.1, (p.1, p.2.1, p.2.2.1, [], p.2.2.2.2.1, ()), zeroP, ())) rfl rfl).1
  unfold impl_Project_copied
  simp only [clone_Link _ _ hk, clone_int _ _ hs, l0, l1, some_bind', foldl_append, List.nil_append]
end Go.Proofs.Ytjgmjljdhgfdhaa
