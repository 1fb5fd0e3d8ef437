/-
  Plain laws: numbers in a row, lists that hold a number, sets, domains (several small texts in one). Condition: no list is longer than 2 to the 40.
-/
import Derived.Test.YtjgmjljdhgfdhaaGreatj4LProjM
import Derived.Test.YtjgmjljdhgfdhaaGreatN36
namespace Go.Proofs.YtjgmjljdhgfdhaaGreat
open Go.Abs
set_option linter.unusedVariables false
set_option linter.unusedSimpArgs false

theorem addNilR {α : Type} (x : List α) (h : x.length ≤ 1048576) : addI [] x = some x := by
  rw [addI_ok (by rw [room_eq]; simp; omega)]
  rfl
theorem addOneR {α : Type} (x : List α) (y : α) (h : x.length ≤ 1048576) : addI x [y] = some (x ++ [y]) := addI_ok (by rw [room_eq]; simp; omega)
theorem mode_count {p : D_Project} (h : projB p = true) : p.2.1.length ≤ 6 ∧ ∀ i (hi : i < p.2.1.length), 1 ≤ p.2.1[i].2.2.1.length ∧ p.2.1[i].2.2.1.length ≤ 3 := by
  unfold projB at h
  simp only [Bool.and_eq_true] at h
  refine ⟨?_, fun i hi => ?_⟩
  · have := inB_iff.1 h.1.1.1.1.1.1.1.2
    rw [lenI_eq] at this
    omega
  · have h1 := h.1.1.1.2
    rw [List.all_eq_true] at h1
    have h2 := h1 i (by simpa using hi)
    unfold actI at h2
    rw [List.getElem?_eq_getElem hi] at h2
    simp only [Bool.and_eq_true] at h2
    have h3 := h2.1
    unfold actB at h3
    simp only [Bool.and_eq_true] at h3
    have := inB_iff.1 h3.2.2
    omega
theorem rangeN_s (n : Nat) (u : Unit) (hn : n ≤ 200) : spec_IntRange ((n : Int), u) () = some (iotaI n, ()) := by
  unfold spec_IntRange
  have hw : inB (n : Int) 0 200 = true := inB_iff.2 ⟨by omega, by omega⟩
  simp only [l01In_eq, some_bind', hw, notB_true, Bool.false_eq_true, if_false]
  have l0 := fun A : Type => (fold_loop (A := A) (F := spec_IntRange_L0) (fun i out => ((i : Int), (n : Int), out, ())) n (fun i out => out.length = i) (fun i out => out ++ [(i : Int)]) (fun out => Sum.inl (false, (n : Int), (n : Int), out, ())) (by omega)
    (fun i out hi ho => by
      have ha : addI out [(i : Int)] = some (out ++ [(i : Int)]) := addI_ok (by rw [room_eq]; simp; omega)
      constructor
      · unfold spec_IntRange_L0
        simp only [lt_yes hi, if_true, ha, some_bind', idxN hi (show n ≤ 1099511627776 by omega) (Nat.le_refl _)]
      · simp [ho])
    (fun out ho => by
      unfold spec_IntRange_L0
      simp only [lt_no, Bool.false_eq_true, if_false])
    (a := []) rfl).1
  have e0 : (((0 : Nat) : Int), (n : Int), ([] : List Int), ()) = ((0 : Int), (n : Int), ([] : List Int), ()) := rfl
  rw [e0] at l0
  have e1 := foldN_iota (fun (out : List Int) (x : Int) => out ++ [x]) n []
  simp only [l0, some_bind', e1, foldl_append, List.nil_append]
theorem rangeN_i : impl_IntRange = spec_IntRange := rfl
open Go.Abs
set_option linter.unusedVariables false
set_option linter.unusedSimpArgs false

def hasR (l : List Int) (n : Int) : Bool := l.any fun x => eqZ x n
theorem eqZ_commR (x y : Int) : eqZ x y = eqZ y x := by
  rw [eqZ_dec, eqZ_dec]
  congr 1
  exact propext ⟨Eq.symm, Eq.symm⟩
theorem all_notR {E : Type} (q : E → Bool) (l : List E) : (l.all fun x => notB (q x)) = notB (l.any q) := by
  induction l with
  | nil => rfl
  | cons x l ih =>
    simp only [List.all_cons, List.any_cons, ih]
    cases q x <;> simp [notB]
theorem SetHasR_spec (l : List Int) (n : Int) (u : Unit) (hl : l.length ≤ 1099511627776) : spec_SetHas (l, n, u) () = some (hasR l n, ()) := by
  have l0 := fun A : Type => allS (A := A) (F := spec_SetHas_L0) (fun i => ((i : Int), (l.length : Int), l, n, ())) (0, (l.length : Int), l, n, ()) l (fun x => notB (eqZ x n)) (Sum.inl (false, (l.length : Int), (l.length : Int), l, n, ())) (true, ()) rfl hl
    (fun i hi => by
      unfold spec_SetHas_L0
      simp only [lt_yes hi, if_true, getI_lt hi, some_bind', idxN hi hl (Nat.le_refl _)]
      cases eqZ l[i] n <;> rfl)
    (by unfold spec_SetHas_L0; simp only [lt_no, Bool.false_eq_true, if_false])
  unfold spec_SetHas hasR
  simp only [lenI_eq, l0, all_notR]
  cases l.any (fun x => eqZ x n) <;> rfl
open Go.Abs
set_option linter.unusedVariables false
set_option linter.unusedSimpArgs false

def hasB (l : List Int) (n : Int) : Bool := l.any fun x => eqZ x n
theorem eqZ_comm (x y : Int) : eqZ x y = eqZ y x := by
  rw [eqZ_dec, eqZ_dec]
  congr 1
  exact propext ⟨Eq.symm, Eq.symm⟩
theorem all_notB {E : Type} (q : E → Bool) (l : List E) : (l.all fun x => notB (q x)) = notB (l.any q) := by
  induction l with
  | nil => rfl
  | cons x l ih =>
    simp only [List.all_cons, List.any_cons, ih]
    cases q x <;> simp [notB]
theorem SetHas_spec (l : List Int) (n : Int) (u : Unit) (hl : l.length ≤ 1099511627776) : spec_SetHas (l, n, u) () = some (hasB l n, ()) := by
  have l0 := fun A : Type => allS (A := A) (F := spec_SetHas_L0) (fun i => ((i : Int), (l.length : Int), l, n, ())) (0, (l.length : Int), l, n, ()) l (fun x => notB (eqZ x n)) (Sum.inl (false, (l.length : Int), (l.length : Int), l, n, ())) (true, ()) rfl hl
    (fun i hi => by
      unfold spec_SetHas_L0
      simp only [lt_yes hi, if_true, getI_lt hi, some_bind', idxN hi hl (Nat.le_refl _)]
      cases eqZ l[i] n <;> rfl)
    (by unfold spec_SetHas_L0; simp only [lt_no, Bool.false_eq_true, if_false])
  unfold spec_SetHas hasB
  simp only [lenI_eq, l0, all_notB]
  cases l.any (fun x => eqZ x n) <;> rfl
theorem SetHas_impl (l : List Int) (n : Int) (u : Unit) (hl : l.length ≤ 1099511627776) : impl_SetHas (l, n, u) () = some (hasB l n, ()) := by
  have l0 := fun A : Type => findS (A := A) (F := slices_Index_int_int_L0) (fun i => ((i : Int), (l.length : Int), n, l, ())) (0, (l.length : Int), n, l, ()) l (fun x => eqZ x n) (Sum.inl (false, (l.length : Int), (l.length : Int), n, l, ())) (fun i => ((i : Int), ())) rfl hl
    (fun i hi => by
      unfold slices_Index_int_int_L0
      simp only [lt_yes hi, if_true, getI_lt hi, some_bind', idxN hi hl (Nat.le_refl _), eqZ_comm n]
      cases eqZ l[i] n <;> rfl)
    (by unfold slices_Index_int_int_L0; simp only [lt_no, Bool.false_eq_true, if_false])
  have e : slices_Index_int_int (l, n, ()) () = some (idxOf (fun x => eqZ x n) l, ()) := by
    unfold slices_Index_int_int idxOf
    simp only [lenI_eq, l0]
    cases l.findIdx? (fun x => eqZ x n) <;> rfl
  unfold impl_SetHas slices_Contains_int_int hasB
  simp only [e, some_bind', idxOf_any]
open Go.Abs
set_option linter.unusedVariables false
set_option linter.unusedSimpArgs false

/-- a set lies in another -/
def subB (a b : List Int) : Bool := a.all (hasB b)
theorem SetSubset_spec (a b : List Int) (u : Unit) (ha : a.length ≤ 1099511627776) (hb : b.length ≤ 1099511627776) : spec_SetSubset (a, b, u) () = some (subB a b, ()) := by
  have l0 := fun A : Type => allS (A := A) (F := spec_SetSubset_L0) (fun i => ((i : Int), (a.length : Int), a, b, ())) (0, (a.length : Int), a, b, ()) a (hasB b) (Sum.inl (false, (a.length : Int), (a.length : Int), a, b, ())) (false, ()) rfl ha
    (fun i hi => by
      unfold spec_SetSubset_L0
      simp only [lt_yes hi, if_true, getI_lt hi, some_bind', SetHas_spec _ _ _ hb, idxN hi ha (Nat.le_refl _)]
      cases hasB b a[i] <;> rfl)
    (by unfold spec_SetSubset_L0; simp only [lt_no, Bool.false_eq_true, if_false])
  unfold spec_SetSubset subB
  simp only [lenI_eq, l0]
  cases a.all (hasB b) <;> rfl
theorem SetSubset_impl (a b : List Int) (u : Unit) (ha : a.length ≤ 1099511627776) (hb : b.length ≤ 1099511627776) : impl_SetSubset (a, b, u) () = some (subB a b, ()) := by
  have l0 := fun A : Type => allS (A := A) (F := impl_SetSubset_L0) (fun i => ((i : Int), (a.length : Int), a, b, ())) (0, (a.length : Int), a, b, ()) a (hasB b) (Sum.inl (false, (a.length : Int), (a.length : Int), a, b, ())) (false, ()) rfl ha
    (fun i hi => by
      unfold impl_SetSubset_L0
      simp only [lt_yes hi, if_true, getI_lt hi, some_bind', SetHas_impl _ _ _ hb, idxN hi ha (Nat.le_refl _)]
      cases hasB b a[i] <;> rfl)
    (by unfold impl_SetSubset_L0; simp only [lt_no, Bool.false_eq_true, if_false])
  unfold impl_SetSubset subB
  simp only [lenI_eq, l0]
  cases a.all (hasB b) <;> rfl
/-- a list in order, nothing twice -/
def ordI (l : List Int) : Nat → Bool
  | 0 => true
  | j + 1 => match l[j]?, l[j + 1]? with | some x, some y => notB (leZ y x) | _, _ => true
def setB (l : List Int) : Bool := (List.range l.length).all (ordI l)
theorem all_succ (q : Nat → Bool) (n : Nat) : (List.range (n + 1)).all q = (q 0 && (List.range n).all fun i => q (i + 1)) := by
  rw [List.range_succ_eq_map, List.all_cons, List.all_map]
  rfl
theorem SetOk_spec (l : List Int) (u : Unit) (hl : l.length ≤ 1099511627776) : spec_SetOk (l, u) () = some (setB l, ()) := by
  have l0 := fun A : Type => allIS (A := A) (F := spec_SetOk_L0) (fun i => ((i : Int), (l.length : Int), l, ())) (0, (l.length : Int), l, ()) l.length (ordI l) (Sum.inl (false, (l.length : Int), (l.length : Int), l, ())) (false, ()) rfl hl
    (fun i hi => by
      unfold spec_SetOk_L0
      cases i with
      | zero =>
        have e : ltZ 0 ((0 : Nat) : Int) = false := rfl
        simp only [lt_yes hi, if_true, e, Bool.false_eq_true, if_false, some_bind', ordI, idxN hi hl (Nat.le_refl _)]
      | succ j =>
        have e : ltZ 0 ((j + 1 : Nat) : Int) = true := by rw [ltZ_iff]; omega
        have hj : j < l.length := by omega
        simp only [lt_yes hi, if_true, e, idx_pred j (by omega), getI_lt hj, getI_lt hi, some_bind', ordI, List.getElem?_eq_getElem hj, List.getElem?_eq_getElem hi, idxN hi hl (Nat.le_refl _)]
        cases leZ l[j + 1] l[j] <;> rfl)
    (by unfold spec_SetOk_L0; simp only [lt_no, Bool.false_eq_true, if_false])
  unfold spec_SetOk setB
  simp only [lenI_eq, l0]
  cases (List.range l.length).all (ordI l) <;> rfl
theorem SetOk_impl (l : List Int) (u : Unit) (hl : l.length ≤ 1099511627776) : impl_SetOk (l, u) () = some (setB l, ()) := by
  have l0 := fun A : Type => allIS (A := A) (F := impl_SetOk_L0) (fun i => (((i + 1 : Nat) : Int), l, ())) (1, l, ()) (l.length - 1) (fun i => ordI l (i + 1)) (Sum.inl (false, ((l.length - 1 + 1 : Nat) : Int), l, ())) (false, ()) rfl (by omega)
    (fun i hi => by
      have hi1 : i + 1 < l.length := by omega
      have hj : i < l.length := by omega
      unfold impl_SetOk_L0
      simp only [lenI_eq, lt_yes hi1, if_true, idx_pred i (by omega), getI_lt hj, getI_lt hi1, some_bind', ordI, List.getElem?_eq_getElem hj, List.getElem?_eq_getElem hi1, idxN hi1 hl (Nat.le_refl _)]
      cases leZ l[i + 1] l[i] <;> rfl)
    (by
      have e : ltZ ((l.length - 1 + 1 : Nat) : Int) (l.length : Int) = false := by rw [Bool.eq_false_iff, Ne, ltZ_iff]; omega
      unfold impl_SetOk_L0
      simp only [lenI_eq, e, Bool.false_eq_true, if_false])
  have hs : setB l = (List.range (l.length - 1)).all fun i => ordI l (i + 1) := by
    unfold setB
    by_cases h0 : l.length = 0
    · rw [h0]; rfl
    · obtain ⟨n, hn⟩ : ∃ n, l.length = n + 1 := ⟨l.length - 1, by omega⟩
      rw [hn, all_succ]
      simp [ordI]
  unfold impl_SetOk
  simp only [l0, hs]
  cases (List.range (l.length - 1)).all (fun i => ordI l (i + 1)) <;> rfl
theorem intRange_s (n : Nat) (u : Unit) (hn : n ≤ 200) : spec_IntRange ((n : Int), u) () = some (iotaI n, ()) := by
  unfold spec_IntRange
  have hw : inB (n : Int) 0 200 = true := inB_iff.2 ⟨by omega, by omega⟩
  simp only [l01In_eq, some_bind', hw, notB_true, Bool.false_eq_true, if_false]
  have l0 := fun A : Type => (fold_loop (A := A) (F := spec_IntRange_L0) (fun i out => ((i : Int), (n : Int), out, ())) n (fun i out => out.length = i) (fun i out => out ++ [(i : Int)]) (fun out => Sum.inl (false, (n : Int), (n : Int), out, ())) (by omega)
    (fun i out hi ho => by
      have ha : addI out [(i : Int)] = some (out ++ [(i : Int)]) := addI_ok (by rw [room_eq]; simp; omega)
      constructor
      · unfold spec_IntRange_L0
        simp only [lt_yes hi, if_true, ha, some_bind', idxN hi (show n ≤ 1099511627776 by omega) (Nat.le_refl _)]
      · simp [ho])
    (fun out ho => by
      unfold spec_IntRange_L0
      simp only [lt_no, Bool.false_eq_true, if_false])
    (a := []) rfl).1
  have e0 : (((0 : Nat) : Int), (n : Int), ([] : List Int), ()) = ((0 : Int), (n : Int), ([] : List Int), ()) := rfl
  rw [e0] at l0
  have e1 := foldN_iota (fun (out : List Int) (x : Int) => out ++ [x]) n []
  simp only [l0, some_bind', e1, foldl_append, List.nil_append]
theorem intRange_i : impl_IntRange = spec_IntRange := rfl
open Go.Abs
set_option linter.unusedVariables false
set_option linter.unusedSimpArgs false

theorem ModeIndexes_s (a : D_Activity) (u : Unit) (h : a.2.2.1.length ≤ 200) : spec_ModeIndexes (a, u) () = some (iotaI a.2.2.1.length, ()) := by
  unfold spec_ModeIndexes
  simp only [lenI_eq, intRange_s _ _ h, some_bind']
theorem ModeIndexes_i (a : D_Activity) (u : Unit) (h : a.2.2.1.length ≤ 200) : impl_ModeIndexes (a, u) () = some (iotaI a.2.2.1.length, ()) := by
  unfold impl_ModeIndexes
  simp only [lenI_eq, intRange_i, intRange_s _ _ h, some_bind']
end Go.Proofs.YtjgmjljdhgfdhaaGreat
