/-
  Plain laws: numbers in a row, lists that hold a number, sets, domains (several small texts in one). Condition: no list is longer than 2 to the 40.
-/
import Derived.Test.YtjjlancmbaacfaaGreath4LProjM
import Derived.Test.YtjjlancmbaacfaaGreatN36
namespace Go.Proofs.YtjjlancmbaacfaaGreat
open Go.Abs
set_option linter.unusedVariables false
set_option linter.unusedSimpArgs false

theorem addNilR {α : Type} (x : List α) (h : x.length ≤ 1048576) : addI [] x = some x := by
  rw [addI_ok (by rw [room_eq]; simp; omega)]
  rfl
theorem addOneR {α : Type} (x : List α) (y : α) (h : x.length ≤ 1048576) : addI x [y] = some (x ++ [y]) := addI_ok (by rw [room_eq]; simp; omega)
theorem mode_count {p : D_Project} (h : projB p = true) : p.2.1.length ≤ 6 ∧ ∀ i (hi : i < p.2.1.length), 1 ≤ p.2.1[i].2.2.1.length ∧ p.2.1[i].2.2.1.length ≤ 3 := by
  unfold projB at h
  simp only [Bool.and_eq_true] at h
  refine ⟨?_, fun i hi => ?_⟩
  · have := inB_iff.1 h.1.1.1.1.1.1.1.2
    rw [lenI_eq] at this
    omega
  · have h1 := h.1.1.1.2
    rw [List.all_eq_true] at h1
    have h2 := h1 i (by simpa using hi)
    unfold actI at h2
    rw [List.getElem?_eq_getElem hi] at h2
    simp only [Bool.and_eq_true] at h2
    have h3 := h2.1
    unfold actB at h3
    simp only [Bool.and_eq_true] at h3
    have := inB_iff.1 h3.2.2
    omega
theorem rangeN_s (n : Nat) (u : Unit) (hn : n ≤ 200) : spec_IntRange ((n : Int), u) () = some (iotaI n, ()) := by
  unfold spec_IntRange
  have hw : inB (n : Int) 0 200 = true := inB_iff.2 ⟨by omega, by omega⟩
  simp only [l01In_eq, some_bind', hw, notB_true, Bool.false_eq_true, if_false]
  have l0 := fun A : Type => (fold_loop (A := A) (F := spec_IntRange_L0) (fun i out => ((i : Int), (n : Int), out, ())) n (fun i out => out.length = i) (fun i out => out ++ [(i : Int)]) (fun out => Sum.inl (false, (n : Int), (n : Int), out, ())) (by omega)
    (fun i out hi ho => by
      have ha : addI out [(i : Int)] = some (out ++ [(i : Int)]) := addI_ok (by rw [room_eq]; simp; omega)
      constructor
      · unfold spec_IntRange_L0
        simp only [lt_yes hi, if_true, ha, some_bind', idxN hi (show n ≤ 1099511627776 by omega) (Nat.le_refl _)]
      · simp [ho])
    (fun out ho => by
      unfold spec_IntRange_L0
      simp only [lt_no, Bool.false_eq_true, if_false])
    (a := []) rfl).1
  have e0 : (((0 : Nat) : Int), (n : Int), ([] : List Int), ()) = ((0 : Int), (n : Int), ([] : List Int), ()) := rfl
  rw [e0] at l0
  have e1 := foldN_iota (fun (out : List Int) (x : Int) => out ++ [x]) n []
  simp only [l0, some_bind', e1, foldl_append, List.nil_append]
theorem rangeN_i : impl_IntRange = spec_IntRange := rfl
open Go.Abs
set_option linter.unusedVariables false
set_option linter.unusedSimpArgs false

def hasR (l : List Int) (n : Int) : Bool := l.any fun x => eqZ x n
theorem eqZ_commR (x y : Int) : eqZ x y = eqZ y x := by
  rw [eqZ_dec, eqZ_dec]
  congr 1
  exact propext ⟨Eq.symm, Eq.symm⟩
theorem all_notR {E : Type} (q : E → Bool) (l : List E) : (l.all fun x => notB (q x)) = notB (l.any q) := by
  induction l with
  | nil => rfl
  | cons x l ih =>
    simp only [List.all_cons, List.any_cons, ih]
    cases q x <;> simp [notB]
theorem SetHasR_spec (l : List Int) (n : Int) (u : Unit) (hl : l.length ≤ 1099511627776) : spec_SetHas (l, n, u) () = some (hasR l n, ()) := by
  have l0 := fun A : Type => allS (A := A) (F := spec_SetHas_L0) (fun i => ((i : Int), (l.length : Int), l, n, ())) (0, (l.length : Int), l, n, ()) l (fun x => notB (eqZ x n)) (Sum.inl (false, (l.length : Int), (l.length : Int), l, n, ())) (true, ()) rfl hl
    (fun i hi => by
      unfold spec_SetHas_L0
      simp only [lt_yes hi, if_true, getI_lt hi, some_bind', idxN hi hl (Nat.le_refl _)]
      cases eqZ l[i] n <;> rfl)
    (by unfold spec_SetHas_L0; simp only [lt_no, Bool.false_eq_true, if_false])
  unfold spec_SetHas hasR
  simp only [lenI_eq, l0, all_notR]
  cases l.any (fun x => eqZ x n) <;> rfl
open Go.Abs
set_option linter.unusedVariables false
set_option linter.unusedSimpArgs false

def hasB (l : List Int) (n : Int) : Bool := l.any fun x => eqZ x n
theorem eqZ_comm (x y : Int) : eqZ x y = eqZ y x := by
  rw [eqZ_dec, eqZ_dec]
  congr 1
  exact propext ⟨Eq.symm, Eq.symm⟩
theorem all_notB {E : Type} (q : E → Bool) (l : List E) : (l.all fun x => notB (q x)) = notB (l.any q) := by
  induction l with
  | nil => rfl
  | cons x l ih =>
    simp only [List.all_cons, List.any_cons, ih]
    cases q x <;> simp [notB]
theorem SetHas_spec (l : List Int) (n : Int) (u : Unit) (hl : l.length ≤ 1099511627776) : spec_SetHas (l, n, u) () = some (hasB l n, ()) := by
  have l0 := fun A : Type => allS (A := A) (F := spec_SetHas_L0) (fun i => ((i : Int), (l.length : Int), l, n, ())) (0, (l.length : Int), l, n, ()) l (fun x => notB (eqZ x n)) (Sum.inl (false, (l.length : Int), (l.length : Int), l, n, ())) (true, ()) rfl hl
    (fun i hi => by
      unfold spec_SetHas_L0
      simp only [lt_yes hi, if_true, getI_lt hi, some_bind', idxN hi hl (Nat.le_refl _)]
      cases eqZ l[i] n <;> rfl)
    (by unfold spec_SetHas_L0; simp only [lt_no, Bool.false_eq_true, if_false])
  unfold spec_SetHas hasB
  simp only [lenI_eq, l0, all_notB]
  cases l.any (fun x => eqZ x n) <;> rfl
theorem SetHas_impl (l : List Int) (n : Int) (u : Unit) (hl : l.length ≤ 1099511627776) : impl_SetHas (l, n, u) () = some (hasB l n, ()) := by
  have l0 := fun A : Type => findS (A := A) (F := slices_Index_int_int_L0) (fun i => ((i : Int), (l.length : Int), n, l, ())) (0, (l.length : Int), n, l, ()) l (fun x => eqZ x n) (Sum.inl (false, (l.length : Int), (l.length : Int), n, l, ())) (fun i => ((i : Int), ())) rfl hl
    (fun i hi => by
      unfold slices_Index_int_int_L0
      simp only [lt_yes hi, if_true, getI_lt hi, some_bind', idxN hi hl (Nat.le_refl _), eqZ_comm n]
      cases eqZ l[i] n <;> rfl)
    (by unfold slices_Index_int_int_L0; simp only [lt_no, Bool.false_eq_true, if_false])
  have e : slices_Index_int_int (l, n, ()) () = some (idxOf (fun x => eqZ x n) l, ()) := by
    unfold slices_Index_int_int idxOf
    simp only [lenI_eq, l0]
    cases l.findIdx? (fun x => eqZ x n) <;> rfl
  unfold impl_SetHas slices_Contains_int_int hasB
  simp only [e, some_bind', idxOf_any]
open Go.Abs
set_option linter.unusedVariables false
set_option linter.unusedSimpArgs false

/-- a set lies in another -/
def subB (a b : List Int) : Bool := a.all (hasB b)
theorem SetSubset_spec (a b : List Int) (u : Unit) (ha : a.length ≤ 1099511627776) (hb : b.length ≤ 1099511627776) : spec_SetSubset (a, b, u) () = some (subB a b, ()) := by
  have l0 := fun A : Type => allS (A := A) (F := spec_SetSubset_L0) (fun i => ((i : Int), (a.length : Int), a, b, ())) (0, (a.length : Int), a, b, ()) a (hasB b) (Sum.inl (false, (a.length : Int), (a.length : Int), a, b, ())) (false, ()) rfl ha
    (fun i hi => by
      unfold spec_SetSubset_L0
      simp only [lt_yes hi, if_true, getI_lt hi, some_bind', SetHas_spec _ _ _ hb, idxN hi ha (Nat.le_refl _)]
      cases hasB b a[i] <;> rfl)
    (by unfold spec_SetSubset_L0; simp only [lt_no, Bool.false_eq_true, if_false])
  unfold spec_SetSubset subB
  simp only [lenI_eq, l0]
  cases a.all (hasB b) <;> rfl
theorem SetSubset_impl (a b : List Int) (u : Unit) (ha : a.length ≤ 1099511627776) (hb : b.length ≤ 1099511627776) : impl_SetSubset (a, b, u) () = some (subB a b, ()) := by
  have l0 := fun A : Type => allS (A := A) (F := impl_SetSubset_L0) (fun i => ((i : Int), (a.length : Int), a, b, ())) (0, (a.length : Int), a, b, ()) a (hasB b) (Sum.inl (false, (a.length : Int), (a.length : Int), a, b, ())) (false, ()) rfl ha
    (fun i hi => by
      unfold impl_SetSubset_L0
      simp only [lt_yes hi, if_true, getI_lt hi, some_bind', SetHas_impl _ _ _ hb, idxN hi ha (Nat.le_refl _)]
      cases hasB b a[i] <;> rfl)
    (by unfold impl_SetSubset_L0; simp only [lt_no, Bool.false_eq_true, if_false])
  unfold impl_SetSubset subB
  simp only [lenI_eq, l0]
  cases a.all (hasB b) <;> rfl
/-- a list in order, nothing twice -/
def ordI (l : List Int) : Nat → Bool
  | 0 => true
  | j + 1 => match l[j]?, l[j + 1]? with | some x, some y => notB (leZ y x) | _, _ => true
def setB (l : List Int) : Bool := (List.range l.length).all (ordI l)
theorem all_succ (q : Nat → Bool) (n : Nat) : (List.range (n + 1)).all q = (q 0 && (List.range n).all fun i => q (i + 1)) := by
  rw [List.range_succ_eq_map, List.all_cons, List.all_map]
  rfl
theorem SetOk_spec (l : List Int) (u : Unit) (hl : l.length ≤ 1099511627776) : spec_SetOk (l, u) () = some (setB l, ()) := by
  have l0 := fun A : Type => allIS (A := A) (F := spec_SetOk_L0) (fun i => ((i : Int), (l.length : Int), l, ())) (0, (l.length : Int), l, ()) l.length (ordI l) (Sum.inl (false, (l.length : Int), (l.length : Int), l, ())) (false, ()) rfl hl
    (fun i hi => by
      unfold spec_SetOk_L0
      cases i with
      | zero =>
        have e : ltZ 0 ((0 : Nat) : Int) = false := rfl
        simp only [lt_yes hi, if_true, e, Bool.false_eq_true, if_false, some_bind', ordI, idxN hi hl (Nat.le_refl _)]
      | succ j =>
        have e : ltZ 0 ((j + 1 : Nat) : Int) = true := by rw [ltZ_iff]; omega
        have hj : j < l.length := by omega
        simp only [lt_yes hi, if_true, e, idx_pred j (by omega), getI_lt hj, getI_lt hi, some_bind', ordI, List.getElem?_eq_getElem hj, List.getElem?_eq_getElem hi, idxN hi hl (Nat.le_refl _)]
        cases leZ l[j + 1] l[j] <;> rfl)
    (by unfold spec_SetOk_L0; simp only [lt_no, Bool.false_eq_true, if_false])
  unfold spec_SetOk setB
  simp only [lenI_eq, l0]
  cases (List.range l.length).all (ordI l) <;> rfl
theorem SetOk_impl (l : List Int) (u : Unit) (hl : l.length ≤ 1099511627776) : impl_SetOk (l, u) () = some (setB l, ()) := by
  have l0 := fun A : Type => allIS (A := A) (F := impl_SetOk_L0) (fun i => (((i + 1 : Nat) : Int), l, ())) (1, l, ()) (l.length - 1) (fun i => ordI l (i + 1)) (Sum.inl (false, ((l.length - 1 + 1 : Nat) : Int), l, ())) (false, ()) rfl (by omega)
    (fun i hi => by
      have hi1 : i + 1 < l.length := by omega
      have hj : i < l.length := by omega
      unfold impl_SetOk_L0
      simp only [lenI_eq, lt_yes hi1, if_true, idx_pred i (by omega), getI_lt hj, getI_lt hi1, some_bind', ordI, List.getElem?_eq_getElem hj, List.getElem?_eq_getElem hi1, idxN hi1 hl (Nat.le_refl _)]
      cases leZ l[i + 1] l[i] <;> rfl)
    (by
      have e : ltZ ((l.length - 1 + 1 : Nat) : Int) (l.length : Int) = false := by rw [Bool.eq_false_iff, Ne, ltZ_iff]; omega
      unfold impl_SetOk_L0
      simp only [lenI_eq, e, Bool.false_eq_true, if_false])
  have hs : setB l = (List.range (l.length - 1)).all fun i => ordI l (i + 1) := by
    unfold setB
    by_cases h0 : l.length = 0
    · rw [h0]; rfl
    · obtain ⟨n, hn⟩ : ∃ n, l.length = n + 1 := ⟨l.length - 1, by omega⟩
      rw [hn, all_succ]
      simp [ordI]
  unfold impl_SetOk
  simp only [l0, hs]
  cases (List.range (l.length - 1)).all (fun i => ordI l (i + 1)) <;> rfl
theorem intRange_s (n : Nat) (u : Unit) (hn : n ≤ 200) : spec_IntRange ((n : Int), u) () = some (iotaI n, ()) := by
  unfold spec_IntRange
  have hw : inB (n : Int) 0 200 = true := inB_iff.2 ⟨by omega, by omega⟩
  simp only [l01In_eq, some_bind', hw, notB_true, Bool.false_eq_true, if_false]
  have l0 := fun A : Type => (fold_loop (A := A) (F := spec_IntRange_L0) (fun i out => ((i : Int), (n : Int), out, ())) n (fun i out => out.length = i) (fun i out => out ++ [(i : Int)]) (fun out => Sum.inl (false, (n : Int), (n : Int), out, ())) (by omega)
    (fun i out hi ho => by
      have ha : addI out [(i : Int)] = some (out ++ [(i : Int)]) := addI_ok (by rw [room_eq]; simp; omega)
      constructor
      · unfold spec_IntRange_L0
        simp only [lt_yes hi, if_true, ha, some_bind', idxN hi (show n ≤ 1099511627776 by omega) (Nat.le_refl _)]
      · simp [ho])
    (fun out ho => by
      unfold spec_IntRange_L0
      simp only [lt_no, Bool.false_eq_true, if_false])
    (a := []) rfl).1
  have e0 : (((0 : Nat) : Int), (n : Int), ([] : List Int), ()) = ((0 : Int), (n : Int), ([] : List Int), ()) := rfl
  rw [e0] at l0
  have e1 := foldN_iota (fun (out : List Int) (x : Int) => out ++ [x]) n []
  simp only [l0, some_bind', e1, foldl_append, List.nil_append]
theorem intRange_i : impl_IntRange = spec_IntRange := rfl
open Go.Abs
set_option linter.unusedVariables false
set_option linter.unusedSimpArgs false

def insV (n : Int) : List Int → List Int
  | [] => [n]
  | x :: l => if x < n then x :: insV n l else n :: x :: l
theorem insV_split {n : Int} : ∀ {A B : List Int}, (∀ x ∈ A, x < n) → (∀ x ∈ B, n < x) → insV n (A ++ B) = A ++ n :: B
  | [], [], _, _ => rfl
  | [], b :: B, _, h => by
    have : ¬ b < n := by have := h b (by simp); omega
    simp [insV, this]
  | a :: A, B, h, h' => by
    have : a < n := h a (by simp)
    have ih := insV_split (n := n) (A := A) (B := B) (fun x hx => h x (by simp [hx])) h'
    simp [insV, this, ih]
abbrev Asc (l : List Int) : Prop := l.Pairwise (· < ·)
theorem Asc.take_lt {l : List Int} (h : Asc l) {i : Nat} {n : Int} (hi : ∀ x, l[i]? = some x → x < n) (hn : i < l.length) : ∀ x ∈ l.take (i + 1), x < n := fun x hx => by
  obtain ⟨j, hj, rfl⟩ := List.mem_iff_getElem.1 hx
  simp only [List.length_take] at hj
  have hi := hi _ (List.getElem?_eq_getElem hn)
  rw [List.getElem_take]
  rcases Nat.lt_or_ge j i with hlt | hge
  · have := List.pairwise_iff_getElem.1 h j i (by omega) hn hlt
    omega
  · have : j = i := by omega
    subst this
    exact hi
theorem Asc.drop_gt {l : List Int} (h : Asc l) {i : Nat} {n : Int} (hi : ∀ x, l[i]? = some x → n < x) : ∀ x ∈ l.drop i, n < x := fun x hx => by
  obtain ⟨j, hj, rfl⟩ := List.mem_iff_getElem.1 hx
  simp only [List.length_drop] at hj
  have hn : i < l.length := by omega
  have hi := hi _ (List.getElem?_eq_getElem hn)
  rw [List.getElem_drop]
  rcases Nat.eq_zero_or_pos j with h0 | h0
  · subst h0; exact hi
  · have := List.pairwise_iff_getElem.1 h i (i + j) hn (by omega) (by omega)
    omega
theorem has_not {l : List Int} {n : Int} (h : hasR l n = false) : n ∉ l := fun hm => by
  unfold hasR at h
  rw [List.any_eq_false] at h
  exact h n hm (eqZ_self n)
theorem has_of_not {l : List Int} {n : Int} (h : n ∉ l) : hasR l n = false := by
  unfold hasR
  rw [List.any_eq_false]
  intro x hx e
  rw [eqZ_dec, decide_eq_true_eq] at e
  exact h (e ▸ hx)
/-- the reference's way -/
theorem Put_s (l : List Int) (n : Int) (u : Unit) (hl : l.length ≤ 1048575) (h : Asc l) (hn : n ∉ l) : spec_l02Put (l, n, u) () = some (insV n l, ()) := by
  have k := fun u => SetHasR_spec l n u (by omega)
  have l0 : ∃ i b, i ≤ l.length ∧ (∀ x ∈ l.take i, x < n) ∧ (∀ x ∈ l.drop i, n < x) ∧ ∀ A : Type, loopN (A := A) big spec_l02Put_L0 (n, l, 0, ()) = some (.exit (Sum.inl (b, n, l, (i : Int), ()))) := by
    rcases one_loop (F := spec_l02Put_L0) (fun i (_ : Unit) => (n, l, (i : Int), ())) l.length (fun i _ => ∀ x ∈ l.take i, x < n) (fun b => ∃ i b0, i ≤ l.length ∧ (∀ x ∈ l.take i, x < n) ∧ (∀ x ∈ l.drop i, n < x) ∧ b = Sum.inl (b0, n, l, (i : Int), ())) (fun _ => False) (by omega)
      (fun i a hi hI => by
        by_cases hlt : i < l.length
        · rcases tf (ltZ l[i] n) with q | q
          · refine .inr (.inl ⟨Sum.inl (false, n, l, (i : Int), ()), ?_, i, false, hi, hI, h.drop_gt fun x hx => ?_, rfl⟩)
            · unfold spec_l02Put_L0
              simp only [lenI_eq, lt_yes hlt, if_true, getI_lt hlt, some_bind', q, Bool.false_eq_true, if_false]
            · rw [List.getElem?_eq_getElem hlt] at hx
              cases hx
              rw [ltZ_dec, decide_eq_false_iff_not] at q
              have : l[i] ≠ n := fun e => hn (e ▸ List.getElem_mem hlt)
              omega
          · refine .inl ⟨(), hlt, ?_, h.take_lt (fun x hx => ?_) hlt⟩
            · unfold spec_l02Put_L0
              simp only [lenI_eq, lt_yes hlt, if_true, getI_lt hlt, some_bind', q, idxN hlt (show l.length ≤ 1099511627776 by omega) (Nat.le_refl _)]
            · rw [List.getElem?_eq_getElem hlt] at hx
              cases hx
              rw [ltZ_dec, decide_eq_true_eq] at q
              exact q
        · obtain rfl : i = l.length := by omega
          refine .inr (.inl ⟨Sum.inl (false, n, l, (l.length : Int), ()), ?_, l.length, false, hi, hI, by simp, rfl⟩)
          unfold spec_l02Put_L0
          simp only [lenI_eq, lt_no, Bool.false_eq_true, if_false, some_bind'])
      (a := ()) (s := (n, l, 0, ())) rfl (by simp) with ⟨b, e, i, b0, h1, h2, h3, rfl⟩ | ⟨_, _, hf⟩
    · exact ⟨i, b0, h1, h2, h3, e⟩
    · exact hf.elim
  obtain ⟨i, b0, h1, h2, h3, e⟩ := l0
  have c1 : cutI l 0 (i : Int) = some (l.take i) := by
    unfold cutI
    rw [if_pos ⟨by omega, by omega, by omega⟩]
    simp
  have c2 : cutI l (i : Int) (lenI l) = some (l.drop i) := by
    unfold cutI
    rw [lenI_eq, if_pos ⟨by omega, by omega, by omega⟩]
    simp
  have lt : (l.take i).length ≤ i := by simp; omega
  have ld : (l.drop i).length = l.length - i := by simp
  have a1 := addNilR (l.take i) (by omega)
  have a2 := addOneR (l.take i) n (by omega)
  have a3 : addI (l.take i ++ [n]) (l.drop i) = some (l.take i ++ [n] ++ l.drop i) := addI_ok (by rw [room_eq]; simp; omega)
  have es := insV_split h2 h3
  rw [List.take_append_drop] at es
  unfold spec_l02Put
  simp only [k, some_bind', has_of_not hn, Bool.false_eq_true, if_false, e, c1, c2, a1, a2, a3, es, List.append_assoc, List.singleton_append]
theorem ins_last {n : Int} {l : List Int} (h : ∀ x ∈ l, x < n) : insV n l = l ++ [n] := by
  have := insV_split (n := n) (A := l) (B := []) h (by simp)
  simpa using this
theorem SetOf_asc (l : List Int) (u : Unit) (hl : l.length ≤ 1048575) (h : Asc l) : spec_SetOf (l, u) () = some (l, ()) := by
  have l0 := fun A : Type => (fold_list (A := A) (F := spec_SetOf_L0) (fun i out => ((i : Int), (l.length : Int), l, out, ())) l (fun i out => out = l.take i) (fun out x => out ++ [x]) (fun out => Sum.inl (false, (l.length : Int), (l.length : Int), l, out, ())) (by omega)
    (fun i out hi ho => by
      subst ho
      have hlt : ∀ x ∈ l.take i, x < l[i] := fun x hx => by
        obtain ⟨j, hj, rfl⟩ := List.mem_iff_getElem.1 hx
        simp only [List.length_take] at hj
        rw [List.getElem_take]
        exact List.pairwise_iff_getElem.1 h j i (by omega) hi (by omega)
      have k := fun u => Put_s (l.take i) l[i] u (by simp; omega) (h.sublist (List.take_sublist _ _)) (fun hm => by have := hlt _ hm; omega)
      constructor
      · unfold spec_SetOf_L0
        simp only [lt_yes hi, if_true, getI_lt hi, some_bind', k, ins_last hlt, idxN hi (show l.length ≤ 1099511627776 by omega) (Nat.le_refl _)]
      · simp)
    (fun out _ => by
      unfold spec_SetOf_L0
      simp only [lt_no, Bool.false_eq_true, if_false])
    (a := []) (s := (0, (l.length : Int), l, [], ())) rfl (by simp)).1
  unfold spec_SetOf
  simp only [lenI_eq, l0, some_bind', foldl_append, List.nil_append]
theorem SetAdd_s (l : List Int) (n : Int) (u : Unit) (hl : l.length ≤ 1048575) (h : Asc l) (hn : n ∉ l) : spec_SetAdd (l, n, u) () = some (insV n l, ()) := by
  unfold spec_SetAdd
  simp only [SetOf_asc l _ hl h, some_bind', Put_s l n _ hl h hn]

theorem big_two1 : ∃ n, big = n + 1 + 1 := ⟨18446744073709551614, rfl⟩
theorem loop_exitA {σ A B C : Type} {F : σ → Option (Out σ B C)} {s : σ} {b : B} (h : F s = some (.exit b)) : loopN (A := A) big F s = some (.exit b) := by
  obtain ⟨n, hn⟩ := big_two1
  rw [hn]
  simp only [loopN, h]
  rfl
theorem loop_retA {σ A B C : Type} {F : σ → Option (Out σ B C)} {s : σ} {c : C} (h : F s = some (.ret c)) : loopN (A := A) big F s = some (.ret c) := by
  obtain ⟨n, hn⟩ := big_two1
  rw [hn]
  simp only [loopN, h]
  rfl
/-- the program's way -/
theorem Less_i (x y : Int) (u : Unit) : cmp_Less_int (x, y, u) () = some (ltZ x y, ()) := by
  have e : ∀ x u, cmp_isNaN_int (x, u) () = some (false, ()) := fun x u => by
    unfold cmp_isNaN_int
    simp [eqZ_self, notB]
  unfold cmp_Less_int
  simp only [e, some_bind', Bool.false_eq_true, if_false]
theorem getI_mid {α : Type} (A : List α) (x : α) (B : List α) : getI (A ++ x :: B) (A.length : Int) = some x := by
  rw [getI_nat, List.getElem?_append_right (Nat.le_refl _)]
  simp
theorem setI_mid {α : Type} (x : α) (B : List α) (f : α → α) : ∀ (A : List α), setI (A ++ x :: B) (A.length : Int) f = A ++ f x :: B := fun A => by
  rw [setI_nat]
  induction A with
  | nil => rfl
  | cons a A ih => simp [List.modify_succ_cons, ih]
/-- the last number finds its place -/
theorem ins_inner (l : List Int) (n : Int) (hl : l.length ≤ 1000) (h : Asc l) (hn : n ∉ l) : ∃ b j, ∀ A : Type, loopN (A := A) big slices_insertionSortOrdered_int_L0 ((l.length : Int), (l.length : Int), ((l.length + 1 : Nat) : Int), 0, l ++ [n], ()) = some (.exit (Sum.inl (b, j, (l.length : Int), ((l.length + 1 : Nat) : Int), 0, insV n l, ()))) := by
  rcases one_loop (F := slices_insertionSortOrdered_int_L0) (fun k (a : List Int × List Int) => ((a.1.length : Int), (l.length : Int), ((l.length + 1 : Nat) : Int), 0, a.1 ++ n :: a.2, ())) l.length (fun k a => a.1 ++ a.2 = l ∧ a.1.length + k = l.length ∧ ∀ x ∈ a.2, n < x)
    (fun b => ∃ b0 j, b = Sum.inl (b0, j, (l.length : Int), ((l.length + 1 : Nat) : Int), 0, insV n l, ())) (fun _ => False) (by omega)
    (fun k a hk hI => by
      obtain ⟨A, B⟩ := a
      obtain ⟨h1, h2, h3⟩ := hI
      simp only at h1 h2 h3
      rcases List.eq_nil_or_concat A with rfl | ⟨A', y, rfl⟩
      · refine .inr (.inl ⟨_, ?_, false, 0, rfl⟩)
        have e : insV n l = n :: B := by
          have := insV_split (n := n) (A := []) (B := B) (by simp) h3
          rw [← h1]; exact this
        have e0 : ltZ 0 ((([] : List Int).length : Nat) : Int) = false := rfl
        unfold slices_insertionSortOrdered_int_L0
        simp only [e0, Bool.false_eq_true, if_false, some_bind', e]
        rfl
      · have hj : (A'.concat y).length = A'.length + 1 := by simp
        have hd : A'.concat y ++ n :: B = (A' ++ [y]) ++ n :: B := by simp
        have hd2 : (A' ++ [y]) ++ n :: B = A' ++ y :: (n :: B) := by simp
        have g1 : getI ((A' ++ [y]) ++ n :: B) ((A'.length + 1 : Nat) : Int) = some n := by
          have := getI_mid (A' ++ [y]) n B
          rw [show (A' ++ [y]).length = A'.length + 1 by simp] at this
          exact this
        have g2 : getI ((A' ++ [y]) ++ n :: B) (A'.length : Int) = some y := by
          rw [hd2]; exact getI_mid A' y (n :: B)
        have g3 : setI ((A' ++ [y]) ++ n :: B) ((A'.length + 1 : Nat) : Int) (fun _ => y) = A' ++ y :: (y :: B) := by
          have := setI_mid n B (fun _ => y) (A' ++ [y])
          rw [show (A' ++ [y]).length = A'.length + 1 by simp] at this
          rw [this]; simp
        have g4 : getI (A' ++ y :: (y :: B)) (A'.length : Int) = some y := getI_mid A' y (y :: B)
        have g5 : setI (A' ++ y :: (y :: B)) (A'.length : Int) (fun _ => n) = A' ++ n :: (y :: B) := setI_mid y (y :: B) (fun _ => n) A'
        have e0 : ltZ 0 ((A'.length + 1 : Nat) : Int) = true := by rw [ltZ_iff]; omega
        have e1 := idx_pred A'.length (by have := hj; omega)
        have hne : y ≠ n := fun e => hn (by rw [← h1, ← e]; simp)
        rcases tf (ltZ n y) with q | q
        · refine .inr (.inl ⟨_, ?_, false, ((A'.length + 1 : Nat) : Int), rfl⟩)
          have hy : y < n := by rw [ltZ_dec, decide_eq_false_iff_not] at q; omega
          have hA : ∀ x ∈ A' ++ [y], x < n := fun x hx => by
            rcases List.mem_append.1 hx with hx | hx
            · have hp : Asc (A' ++ (y :: B)) := by
                have : A' ++ (y :: B) = l := by rw [← h1]; simp
                rw [this]; exact h
              have := (List.pairwise_append.1 hp).2.2 x hx y (by simp)
              omega
            · rw [List.mem_singleton.1 hx]; exact hy
          have e : insV n l = (A' ++ [y]) ++ n :: B := by
            have := insV_split hA h3
            rw [← h1]
            simpa using this
          unfold slices_insertionSortOrdered_int_L0
          simp only [hj, hd, e0, if_true, g1, e1, g2, some_bind', Less_i, q, Bool.false_eq_true, if_false, e]
        · refine .inl ⟨(A', y :: B), by have := hj; simp only [hj] at h2; omega, ?_, by rw [← h1]; simp, by simp only [hj] at h2; simp only; omega, fun x hx => ?_⟩
          · unfold slices_insertionSortOrdered_int_L0
            simp only [hj, hd, e0, if_true, g1, e1, g2, g3, g4, g5, some_bind', Less_i, q]
          · rcases List.mem_cons.1 hx with rfl | hx
            · rw [ltZ_dec, decide_eq_true_eq] at q; exact q
            · exact h3 x hx)
    (a := (l, [])) (s := ((l.length : Int), (l.length : Int), ((l.length + 1 : Nat) : Int), 0, l ++ [n], ())) rfl ⟨by simp, by simp, by simp⟩ with ⟨b, e, b0, j, rfl⟩ | ⟨_, _, hf⟩
  · exact ⟨b0, j, e⟩
  · exact hf.elim
theorem ins_sort (l : List Int) (n : Int) (u : Unit) (hl : l.length ≤ 1000) (h : Asc l) (hn : n ∉ l) : slices_insertionSortOrdered_int (l ++ [n], 0, ((l.length + 1 : Nat) : Int), u) () = some ((), insV n l) := by
  obtain ⟨b0, j0, hin⟩ := ins_inner l n hl h hn
  have l1 : ∃ b, ∀ A : Type, loopN (A := A) big slices_insertionSortOrdered_int_L1 (1, ((l.length + 1 : Nat) : Int), 0, l ++ [n], ()) = some (.exit (Sum.inl (b, ((l.length + 1 : Nat) : Int), ((l.length + 1 : Nat) : Int), 0, insV n l, ()))) := by
    rcases one_loop (F := slices_insertionSortOrdered_int_L1) (fun k (d : List Int) => (((k + 1 : Nat) : Int), ((l.length + 1 : Nat) : Int), 0, d, ())) l.length (fun k d => d = if k < l.length then l ++ [n] else insV n l)
      (fun b => ∃ b0, b = Sum.inl (b0, ((l.length + 1 : Nat) : Int), ((l.length + 1 : Nat) : Int), 0, insV n l, ())) (fun _ => False) (by omega)
      (fun k d hk hI => by
        by_cases hlt : k < l.length
        · rw [if_pos hlt] at hI
          subst hI
          have e0 : ltZ ((k + 1 : Nat) : Int) ((l.length + 1 : Nat) : Int) = true := by rw [ltZ_iff]; omega
          have e9 : addZ .i64 ((k + 1 : Nat) : Int) 1 = ((k + 1 + 1 : Nat) : Int) := addP (by omega) (by omega) (by omega)
          by_cases hk1 : k + 1 < l.length
          · refine .inl ⟨l ++ [n], hlt, ?_, by rw [if_pos hk1]⟩
            have g1 : getI (l ++ [n]) ((k + 1 : Nat) : Int) = some l[k + 1] := by rw [getI_nat, List.getElem?_append_left hk1, List.getElem?_eq_getElem hk1]
            have g2 : getI (l ++ [n]) (k : Int) = some l[k] := by rw [getI_nat, List.getElem?_append_left hlt, List.getElem?_eq_getElem hlt]
            have q : ltZ l[k + 1] l[k] = false := by
              rw [ltZ_dec, decide_eq_false_iff_not]
              have := List.pairwise_iff_getElem.1 h k (k + 1) hlt hk1 (by omega)
              omega
            have e1 : ltZ 0 ((k + 1 : Nat) : Int) = true := by rw [ltZ_iff]; omega
            have l0 := fun A : Type => loop_exitA (A := A) (F := slices_insertionSortOrdered_int_L0) (s := (((k + 1 : Nat) : Int), ((k + 1 : Nat) : Int), ((l.length + 1 : Nat) : Int), 0, l ++ [n], ())) (b := Sum.inl (false, ((k + 1 : Nat) : Int), ((k + 1 : Nat) : Int), ((l.length + 1 : Nat) : Int), 0, l ++ [n], ())) (by
              unfold slices_insertionSortOrdered_int_L0
              simp only [e1, if_true, g1, idx_pred k (by omega), g2, some_bind', Less_i, q, Bool.false_eq_true, if_false])
            unfold slices_insertionSortOrdered_int_L1
            simp only [e0, if_true, l0, some_bind', e9]
          · have hm : k + 1 = l.length := by omega
            refine .inl ⟨insV n l, hlt, ?_, by rw [if_neg (by omega)]⟩
            simp only [hm] at e0 e9 ⊢
            unfold slices_insertionSortOrdered_int_L1
            simp only [e0, if_true, hin, some_bind', e9]
        · obtain rfl : k = l.length := by omega
          rw [if_neg hlt] at hI
          subst hI
          refine .inr (.inl ⟨_, ?_, false, rfl⟩)
          have e0 : ltZ ((l.length + 1 : Nat) : Int) ((l.length + 1 : Nat) : Int) = false := by rw [ltZ_dec]; simp
          unfold slices_insertionSortOrdered_int_L1
          simp only [e0, Bool.false_eq_true, if_false])
      (a := l ++ [n]) (s := (1, ((l.length + 1 : Nat) : Int), 0, l ++ [n], ())) rfl (by
        split
        · rfl
        · rename_i h0
          have : l = [] := List.eq_nil_of_length_eq_zero (by omega)
          subst this
          rfl) with ⟨b, e, b0, rfl⟩ | ⟨_, _, hf⟩
    · exact ⟨b0, e⟩
    · exact hf.elim
  obtain ⟨b, l1⟩ := l1
  have e1 : addZ .i64 0 1 = (1 : Int) := rfl
  unfold slices_insertionSortOrdered_int
  simp only [e1, l1, some_bind']
theorem bits_ok : ∀ k : Nat, k ≤ 12 → ∃ v, ∀ u, math_bits_Len (wrapI .u64 (k : Int), u) () = some (v, ())
  | 0, _ => ⟨_, fun _ => rfl⟩
  | 1, _ => ⟨_, fun _ => rfl⟩
  | 2, _ => ⟨_, fun _ => rfl⟩
  | 3, _ => ⟨_, fun _ => rfl⟩
  | 4, _ => ⟨_, fun _ => rfl⟩
  | 5, _ => ⟨_, fun _ => rfl⟩
  | 6, _ => ⟨_, fun _ => rfl⟩
  | 7, _ => ⟨_, fun _ => rfl⟩
  | 8, _ => ⟨_, fun _ => rfl⟩
  | 9, _ => ⟨_, fun _ => rfl⟩
  | 10, _ => ⟨_, fun _ => rfl⟩
  | 11, _ => ⟨_, fun _ => rfl⟩
  | 12, _ => ⟨_, fun _ => rfl⟩
  | _ + 13, h => absurd h (by omega)
theorem sub_zero : ∀ k : Nat, k ≤ 12 → subZ .i64 (k : Int) 0 = (k : Int)
  | 0, _ => rfl
  | 1, _ => rfl
  | 2, _ => rfl
  | 3, _ => rfl
  | 4, _ => rfl
  | 5, _ => rfl
  | 6, _ => rfl
  | 7, _ => rfl
  | 8, _ => rfl
  | 9, _ => rfl
  | 10, _ => rfl
  | 11, _ => rfl
  | 12, _ => rfl
  | _ + 13, h => absurd h (by omega)
theorem Sort_i (l : List Int) (n : Int) (u : Unit) (hl : l.length ≤ 11) (h : Asc l) (hn : n ∉ l) : slices_Sort_int_int (l ++ [n], u) () = some ((), insV n l) := by
  obtain ⟨v, hv⟩ := bits_ok (l.length + 1) (by omega)
  have hlen : lenI (l ++ [n]) = ((l.length + 1 : Nat) : Int) := by rw [lenI_eq]; simp
  have es := sub_zero (l.length + 1) (by omega)
  have le : leZ ((l.length + 1 : Nat) : Int) 12 = true := by rw [leZ_dec]; simp; omega
  have lp := fun A : Type => loop_retA (A := A) (F := slices_pdqsortOrdered_int_L0) (s := (true, true, ((l.length + 1 : Nat) : Int), 0, l ++ [n], v, ())) (c := ((), insV n l)) (by
    unfold slices_pdqsortOrdered_int_L0
    simp only [es, le, if_true, ins_sort l n _ (by omega) h hn, some_bind'])
  unfold slices_Sort_int_int
  simp only [hlen, hv, some_bind']
  unfold slices_pdqsortOrdered_int
  simp only [lp, some_bind']
theorem insV_mem {n : Int} : ∀ {l : List Int} {x : Int}, x ∈ insV n l ↔ x = n ∨ x ∈ l
  | [], x => by simp [insV]
  | a :: l, x => by
    unfold insV
    split
    · simp only [List.mem_cons, insV_mem (l := l)]
      constructor
      · rintro (h | h | h)
        · exact .inr (.inl h)
        · exact .inl h
        · exact .inr (.inr h)
      · rintro (h | h | h)
        · exact .inr (.inl h)
        · exact .inl h
        · exact .inr (.inr h)
    · simp
theorem insV_length {n : Int} : ∀ {l : List Int}, (insV n l).length = l.length + 1
  | [] => rfl
  | a :: l => by
    unfold insV
    split
    · simp [insV_length (l := l)]
    · simp
theorem insV_asc {n : Int} : ∀ {l : List Int}, Asc l → n ∉ l → Asc (insV n l)
  | [], _, _ => by simp [insV]
  | a :: l, h, hn => by
    obtain ⟨h1, h2⟩ := List.pairwise_cons.1 h
    unfold insV
    split
    · rename_i ha
      refine List.pairwise_cons.2 ⟨fun x hx => ?_, insV_asc h2 (fun hm => hn (by simp [hm]))⟩
      rcases insV_mem.1 hx with rfl | hx
      · exact ha
      · exact h1 x hx
    · rename_i ha
      have : a ≠ n := fun e => hn (by simp [e])
      refine List.pairwise_cons.2 ⟨fun x hx => ?_, h⟩
      rcases List.mem_cons.1 hx with rfl | hx
      · omega
      · have := h1 x hx; omega
theorem Compact_i (l : List Int) (u : Unit) (hl : l.length ≤ 1000) (h : Asc l) : slices_Compact_int_int (l, u) () = some (l, ()) := by
  unfold slices_Compact_int_int
  rcases tf (ltZ (lenI l) 2) with q | q
  · rw [ltZ_dec, lenI_eq, decide_eq_false_iff_not] at q
    have l0 : ∃ b i, ∀ A : Type, loopN (A := A) big slices_Compact_int_int_L0 (1, l, ()) = some (.exit (Sum.inl (b, i, l, ()))) := by
      rcases one_loop (F := slices_Compact_int_int_L0) (fun k (_ : Unit) => (((k + 1 : Nat) : Int), l, ())) (l.length - 1) (fun _ _ => True) (fun b => ∃ b0 i, b = Sum.inl (b0, i, l, ())) (fun _ => False) (by omega)
        (fun k a hk _ => by
          by_cases hlt : k + 1 < l.length
          · have hk' : k < l.length := by omega
            have e0 : ltZ ((k + 1 : Nat) : Int) (lenI l) = true := by rw [lenI_eq, ltZ_iff]; omega
            have e9 : addZ .i64 ((k + 1 : Nat) : Int) 1 = ((k + 1 + 1 : Nat) : Int) := addP (by omega) (by omega) (by omega)
            have q : eqZ l[k + 1] l[k] = false := eqZ_ne (by
              have := List.pairwise_iff_getElem.1 h k (k + 1) hk' hlt (by omega)
              omega)
            refine .inl ⟨(), by omega, ?_, trivial⟩
            unfold slices_Compact_int_int_L0
            simp only [e0, if_true, getI_lt hlt, idx_pred k (by omega), getI_lt hk', some_bind', q, Bool.false_eq_true, if_false, e9]
          · have e0 : ltZ ((k + 1 : Nat) : Int) (lenI l) = false := by rw [lenI_eq, ltZ_dec, decide_eq_false_iff_not]; omega
            refine .inr (.inl ⟨Sum.inl (false, ((k + 1 : Nat) : Int), l, ()), ?_, false, _, rfl⟩)
            unfold slices_Compact_int_int_L0
            simp only [e0, Bool.false_eq_true, if_false])
        (a := ()) (s := (1, l, ())) rfl trivial with ⟨b, e, b0, i, rfl⟩ | ⟨_, _, hf⟩
      · exact ⟨b0, i, e⟩
      · exact hf.elim
    obtain ⟨b, i, l0⟩ := l0
    have q' : ltZ (lenI l) 2 = false := by rw [ltZ_dec, lenI_eq, decide_eq_false_iff_not]; exact q
    simp only [q', Bool.false_eq_true, if_false, l0, some_bind']
  · simp only [q, if_true]
theorem SetAdd_i (l : List Int) (n : Int) (u : Unit) (hl : l.length ≤ 11) (h : Asc l) (hn : n ∉ l) : impl_SetAdd (l, n, u) () = some (insV n l, ()) := by
  have c : ∀ (x : List Int) (u : Unit), x.length ≤ 1048576 → slices_Clone_int_int (x, u) () = some (x, ()) := fun x u hx => by
    unfold slices_Clone_int_int
    simp only [addNilR _ hx, some_bind']
  unfold impl_SetAdd impl_SetOf
  simp only [c l _ (by omega), some_bind', addOneR l n (by omega), c (l ++ [n]) _ (by simp; omega), Sort_i l n _ hl h hn, Compact_i (insV n l) _ (by rw [insV_length]; omega) (insV_asc h hn)]
end Go.Proofs.YtjjlancmbaacfaaGreat
