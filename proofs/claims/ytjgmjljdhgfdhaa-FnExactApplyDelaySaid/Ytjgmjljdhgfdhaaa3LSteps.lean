/-
  Plain laws: steps made less from a time on: taken together out of the steps, and sampled time by time. Condition: the steps are valid.
-/
import Derived.Test.Ytjgmjljdhgfdhaaa3LProj2
namespace Go.Proofs.Ytjgmjljdhgfdhaa
open Go.Abs
set_option linter.unusedVariables false
set_option linter.unusedSimpArgs false

theorem addOneA {α : Type} (x : List α) (y : α) (h : x.length ≤ 1048576) : addI x [y] = some (x ++ [y]) := addI_ok (by rw [room_eq]; simp; omega)
def capF (t n : Int) (l : List D_Step) : Int := l.foldl (fun n s => if leZ s.1 t = true then s.2.1 else n) n
abbrev capS (l : List D_Step) (t : Int) : Int := capF t 0 l
theorem l03At_A (l : List D_Step) (t : Int) (u : Unit) (hl : l.length ≤ 1099511627776) : spec_l03At (l, t, u) () = some (capS l t, ()) := by
  unfold spec_l03At
  have l0 := fun A : Type => (fold_list (A := A) (F := spec_l03At_L0) (fun i n => ((i : Int), (l.length : Int), l, t, n, ())) l (fun _ _ => True) (fun n s => if leZ s.1 t = true then s.2.1 else n) (fun n => Sum.inl (false, (l.length : Int), (l.length : Int), l, t, n, ())) hl
    (fun i n hi _ => by
      refine ⟨?_, trivial⟩
      unfold spec_l03At_L0
      simp only [lt_yes hi, if_true, getI_lt hi, some_bind', idxN hi hl (Nat.le_refl _)]
      rcases tf (leZ l[i].1 t) with h | h <;> simp only [h, Bool.false_eq_true, if_false, if_true, some_bind', idxN hi hl (Nat.le_refl _)])
    (fun n _ => by
      unfold spec_l03At_L0
      simp only [lt_no, Bool.false_eq_true, if_false])
    (a := 0) (s := (0, (l.length : Int), l, t, 0, ())) rfl trivial).1
  simp only [lenI_eq, l0, some_bind']
  rfl
theorem capAt_A : impl_capacityAt = spec_l03At := rfl
theorem maxA (x y : Int) (u : Unit) : spec_l02Max (x, y, u) () = some (maxI x y, ()) := by
  unfold spec_l02Max maxI
  rcases tf (ltZ y x) with h | h
  · have h' := h
    rw [Bool.eq_false_iff, Ne, ltZ_iff] at h'
    simp only [h, Bool.false_eq_true, if_false]
    split
    · rfl
    · rw [show x = y by omega]
  · have h' := h
    rw [ltZ_iff] at h'
    simp only [h, if_true]
    rw [if_neg (by omega)]
theorem maxI_swap (x y : Int) : maxI x y = maxI y x := by
  unfold maxI
  split <;> split <;> omega
/-- steps that change nothing left out -/
def lowStep (out : List D_Step) (s : D_Step) : List D_Step := match out.getLast? with
  | none => out ++ [s]
  | some r => if eqZ r.2.1 s.2.1 = true then out else out ++ [s]
def lowS (l : List D_Step) : List D_Step := l.foldl lowStep []
theorem lowStep_len (out : List D_Step) (s : D_Step) : (lowStep out s).length ≤ out.length + 1 := by
  unfold lowStep
  split
  · simp
  · split <;> simp
theorem last_at {out : List D_Step} (h : 0 < out.length) (hl : out.length ≤ 1048576) : ∃ r, out.getLast? = some r ∧ getI out (subZ .i64 (lenI out) 1) = some r := by
  have hk : subZ .i64 (lenI out) 1 = ((out.length - 1 : Nat) : Int) := by
    rw [lenI_eq, subZ64 (by omega) (by omega)]
    omega
  refine ⟨out[out.length - 1], ?_, ?_⟩
  · rw [List.getLast?_eq_getElem?, List.getElem?_eq_getElem (by omega)]
  · rw [hk, getI_lt (by omega)]
theorem Low_A (l : List D_Step) (u : Unit) (hl : l.length ≤ 1000) : spec_l03Low (l, u) () = some (lowS l, ()) := by
  unfold spec_l03Low
  have l0 := fun A : Type => (fold_list (A := A) (F := spec_l03Low_L0) (fun i out => ((i : Int), (l.length : Int), l, out, ())) l (fun i out => out.length ≤ i) lowStep (fun out => Sum.inl (false, (l.length : Int), (l.length : Int), l, out, ())) (by omega)
    (fun i out hi hI => by
      refine ⟨?_, Nat.le_trans (lowStep_len _ _) (by omega)⟩
      unfold spec_l03Low_L0 lowStep
      simp only [lt_yes hi, if_true, getI_lt hi, some_bind', idxN hi (show l.length ≤ 1099511627776 by omega) (Nat.le_refl _)]
      rcases Nat.eq_zero_or_pos out.length with h0 | h0
      · obtain rfl : out = [] := List.eq_nil_of_length_eq_zero h0
        simp only [show eqZ (lenI ([] : List D_Step)) 0 = true from rfl, if_true, some_bind', addOneA ([] : List D_Step) l[i] (by simp), List.getLast?_nil, idxN hi (show l.length ≤ 1099511627776 by omega) (Nat.le_refl _)]
      · obtain ⟨r, h1, h2⟩ := last_at h0 (by omega)
        have e0 : eqZ (lenI out) 0 = false := by
          rw [Bool.eq_false_iff, Ne, eqZ_iff, lenI_eq]
          omega
        simp only [e0, h1, h2, Bool.false_eq_true, if_false, some_bind']
        rcases tf (eqZ r.2.1 l[i].2.1) with h | h
        · simp only [h, notB_false, Bool.false_eq_true, if_false, if_true, some_bind', addOneA out l[i] (by omega), idxN hi (show l.length ≤ 1099511627776 by omega) (Nat.le_refl _)]
        · simp only [h, notB_true, Bool.false_eq_true, if_false, if_true, some_bind', idxN hi (show l.length ≤ 1099511627776 by omega) (Nat.le_refl _)])
    (fun out _ => by
      unfold spec_l03Low_L0
      simp only [lt_no, Bool.false_eq_true, if_false])
    (a := []) (s := (0, (l.length : Int), l, [], ())) rfl (Nat.le_refl _)).1
  simp only [lenI_eq, l0, some_bind']
  rfl
/-- the steps made less -/
def newS (l : List D_Step) (a n : Int) : List D_Step := l.filter (fun s => ltZ s.1 a) ++ ((a, maxI 0 (subZ .i64 (capS l a) n), ()) :: (l.filter (fun s => ltZ a s.1)).map fun s => (s.1, maxI 0 (subZ .i64 s.2.1 n), ()))
theorem Less_A (l : List D_Step) (a n : Int) (u : Unit) (hl : l.length ≤ 100) : spec_l31Less (l, a, n, u) () = some (lowS (newS l a n), ()) := by
  unfold spec_l31Less
  have hl' : l.length ≤ 1099511627776 := by omega
  have l0 := fun (u : Unit) (A : Type) => (fold_list (A := A) (F := spec_l31Less_L0) (fun i out => ((i : Int), (l.length : Int), l, out, l, a, n, u)) l (fun i out => out.length ≤ i) (fun out s => if ltZ s.1 a = true then out ++ [s] else out) (fun out => Sum.inl (false, (l.length : Int), (l.length : Int), l, out, l, a, n, u)) hl'
    (fun i out hi hI => by
      refine ⟨?_, ?_⟩
      · unfold spec_l31Less_L0
        simp only [lt_yes hi, if_true, getI_lt hi, some_bind', idxN hi hl' (Nat.le_refl _)]
        rcases tf (ltZ l[i].1 a) with h | h
        · simp only [h, Bool.false_eq_true, if_false, some_bind', idxN hi hl' (Nat.le_refl _)]
        · simp only [h, if_true, some_bind', addOneA out l[i] (by omega), idxN hi hl' (Nat.le_refl _)]
      · split
        · rw [List.length_append, List.length_singleton]; omega
        · omega)
    (fun out _ => by
      unfold spec_l31Less_L0
      simp only [lt_no, Bool.false_eq_true, if_false])
    (a := []) (s := (0, (l.length : Int), l, [], l, a, n, u)) rfl (Nat.le_refl _)).1
  have e1 := foldl_filter (fun s : D_Step => ltZ s.1 a) l []
  have hf1 : (l.filter fun s => ltZ s.1 a).length ≤ 100 := Nat.le_trans (List.length_filter_le _ _) hl
  have l1 := fun (A : Type) => (fold_list (A := A) (F := spec_l31Less_L1) (fun i out => ((i : Int), (l.length : Int), l, a, n, out, ())) l (fun i out => out.length ≤ i + 101) (fun out s => if ltZ a s.1 = true then out ++ [(s.1, maxI 0 (subZ .i64 s.2.1 n), ())] else out) (fun out => Sum.inl (false, (l.length : Int), (l.length : Int), l, a, n, out, ())) hl'
    (fun i out hi hI => by
      refine ⟨?_, ?_⟩
      · unfold spec_l31Less_L1
        simp only [lt_yes hi, if_true, getI_lt hi, some_bind', idxN hi hl' (Nat.le_refl _), maxA]
        rcases tf (ltZ a l[i].1) with h | h
        · simp only [h, Bool.false_eq_true, if_false, some_bind', idxN hi hl' (Nat.le_refl _)]
        · simp only [h, if_true, some_bind', addOneA out _ (show out.length ≤ 1048576 by omega), idxN hi hl' (Nat.le_refl _)]
      · split
        · rw [List.length_append, List.length_singleton]; omega
        · omega)
    (fun out _ => by
      unfold spec_l31Less_L1
      simp only [lt_no, Bool.false_eq_true, if_false])
    (a := (l.filter fun s => ltZ s.1 a) ++ [(a, maxI 0 (subZ .i64 (capS l a) n), ())]) (s := (0, (l.length : Int), l, a, n, (l.filter fun s => ltZ s.1 a) ++ [(a, maxI 0 (subZ .i64 (capS l a) n), ())], ())) rfl (by simp; omega)).1
  have e2 : ∀ (k out : List D_Step), k.foldl (fun out s => if ltZ a s.1 = true then out ++ [(s.1, maxI 0 (subZ .i64 s.2.1 n), ())] else out) out = out ++ (k.filter (fun s => ltZ a s.1)).map fun s => (s.1, maxI 0 (subZ .i64 s.2.1 n), ()) := by
    intro k
    induction k with
    | nil => intro out; simp
    | cons s k ih =>
      intro out
      rw [List.foldl_cons, ih]
      rcases tf (ltZ a s.1) with h | h
      · rw [List.filter_cons, h]
        simp
      · rw [List.filter_cons, h]
        simp
  simp only [lenI_eq, l0, some_bind', e1, List.nil_append, l03At_A l a _ hl', maxA, addOneA _ _ (show (l.filter fun s => ltZ s.1 a).length ≤ 1048576 by omega), l1, e2]
  have hN : (l.filter (fun s => ltZ s.1 a) ++ [(a, maxI 0 (subZ .i64 (capS l a) n), ())]) ++ (l.filter (fun s => ltZ a s.1)).map (fun s => (s.1, maxI 0 (subZ .i64 s.2.1 n), ())) = newS l a n := by
    unfold newS
    simp
  have hlen : (newS l a n).length ≤ 1000 := by
    unfold newS
    have := List.length_filter_le (fun s : D_Step => ltZ a s.1) l
    simp only [List.length_append, List.length_cons, List.length_map]
    omega
  rw [hN]
  simp only [Low_A _ _ hlen, some_bind']
end Go.Proofs.Ytjgmjljdhgfdhaa
