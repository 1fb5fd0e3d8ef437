/-
  Plain laws: numbers in a row, lists that hold a number, sets, domains (several small texts in one). Condition: no list is longer than 2 to the 40.
-/
import Derived.Test.YtdaafnncfkibkaaGreatm3LProjM
import Derived.Test.YtdaafnncfkibkaaGreatN36
import Derived.Test.YtdaafnncfkibkaaGreatN39
namespace Go.Proofs.YtdaafnncfkibkaaGreat
open Go.Abs
set_option linter.unusedVariables false
set_option linter.unusedSimpArgs false

theorem addNilR {α : Type} (x : List α) (h : x.length ≤ 1048576) : addI [] x = some x := by
  rw [addI_ok (by rw [room_eq]; simp; omega)]
  rfl
theorem addOneR {α : Type} (x : List α) (y : α) (h : x.length ≤ 1048576) : addI x [y] = some (x ++ [y]) := addI_ok (by rw [room_eq]; simp; omega)
theorem rangeN_s (n : Nat) (u : Unit) (hn : n ≤ 200) : spec_IntRange ((n : Int), u) () = some (iotaI n, ()) := by
  unfold spec_IntRange
  have hw : inB (n : Int) 0 200 = true := inB_iff.2 ⟨by omega, by omega⟩
  simp only [l01In_eq, some_bind', hw, notB_true, Bool.false_eq_true, if_false]
  have l0 := fun A : Type => (fold_loop (A := A) (F := spec_IntRange_L0) (fun i out => ((i : Int), (n : Int), out, ())) n (fun i out => out.length = i) (fun i out => out ++ [(i : Int)]) (fun out => Sum.inl (false, (n : Int), (n : Int), out, ())) (by omega)
    (fun i out hi ho => by
      have ha : addI out [(i : Int)] = some (out ++ [(i : Int)]) := addI_ok (by rw [room_eq]; simp; omega)
      constructor
      · unfold spec_IntRange_L0
        simp only [lt_yes hi, if_true, ha, some_bind', idxN hi (show n ≤ 1099511627776 by omega) (Nat.le_refl _)]
      · simp [ho])
    (fun out ho => by
      unfold spec_IntRange_L0
      simp only [lt_no, Bool.false_eq_true, if_false])
    (a := []) rfl).1
  have e0 : (((0 : Nat) : Int), (n : Int), ([] : List Int), ()) = ((0 : Int), (n : Int), ([] : List Int), ()) := rfl
  rw [e0] at l0
  have e1 := foldN_iota (fun (out : List Int) (x : Int) => out ++ [x]) n []
  simp only [l0, some_bind', e1, foldl_append, List.nil_append]
theorem rangeN_i : impl_IntRange = spec_IntRange := rfl
open Go.Abs
set_option linter.unusedVariables false
set_option linter.unusedSimpArgs false

def hasR (l : List Int) (n : Int) : Bool := l.any fun x => eqZ x n
theorem all_notR {E : Type} (q : E → Bool) (l : List E) : (l.all fun x => notB (q x)) = notB (l.any q) := by
  induction l with
  | nil => rfl
  | cons x l ih =>
    simp only [List.all_cons, List.any_cons, ih]
    cases q x <;> simp [notB]
theorem SetHasR_spec (l : List Int) (n : Int) (u : Unit) (hl : l.length ≤ 1099511627776) : spec_SetHas (l, n, u) () = some (hasR l n, ()) := by
  have l0 := fun A : Type => allS (A := A) (F := spec_SetHas_L0) (fun i => ((i : Int), (l.length : Int), l, n, ())) (0, (l.length : Int), l, n, ()) l (fun x => notB (eqZ x n)) (Sum.inl (false, (l.length : Int), (l.length : Int), l, n, ())) (true, ()) rfl hl
    (fun i hi => by
      unfold spec_SetHas_L0
      simp only [lt_yes hi, if_true, getI_lt hi, some_bind', idxN hi hl (Nat.le_refl _)]
      cases eqZ l[i] n <;> rfl)
    (by unfold spec_SetHas_L0; simp only [lt_no, Bool.false_eq_true, if_false])
  unfold spec_SetHas hasR
  simp only [lenI_eq, l0, all_notR]
  cases l.any (fun x => eqZ x n) <;> rfl
open Go.Abs
set_option linter.unusedVariables false
set_option linter.unusedSimpArgs false

def hasB (l : List Int) (n : Int) : Bool := l.any fun x => eqZ x n
theorem eqZ_comm (x y : Int) : eqZ x y = eqZ y x := by
  rw [eqZ_dec, eqZ_dec]
  congr 1
  exact propext ⟨Eq.symm, Eq.symm⟩
theorem all_notB {E : Type} (q : E → Bool) (l : List E) : (l.all fun x => notB (q x)) = notB (l.any q) := by
  induction l with
  | nil => rfl
  | cons x l ih =>
    simp only [List.all_cons, List.any_cons, ih]
    cases q x <;> simp [notB]
theorem SetHas_spec (l : List Int) (n : Int) (u : Unit) (hl : l.length ≤ 1099511627776) : spec_SetHas (l, n, u) () = some (hasB l n, ()) := by
  have l0 := fun A : Type => allS (A := A) (F := spec_SetHas_L0) (fun i => ((i : Int), (l.length : Int), l, n, ())) (0, (l.length : Int), l, n, ()) l (fun x => notB (eqZ x n)) (Sum.inl (false, (l.length : Int), (l.length : Int), l, n, ())) (true, ()) rfl hl
    (fun i hi => by
      unfold spec_SetHas_L0
      simp only [lt_yes hi, if_true, getI_lt hi, some_bind', idxN hi hl (Nat.le_refl _)]
      cases eqZ l[i] n <;> rfl)
    (by unfold spec_SetHas_L0; simp only [lt_no, Bool.false_eq_true, if_false])
  unfold spec_SetHas hasB
  simp only [lenI_eq, l0, all_notB]
  cases l.any (fun x => eqZ x n) <;> rfl
theorem SetHas_impl (l : List Int) (n : Int) (u : Unit) (hl : l.length ≤ 1099511627776) : impl_SetHas (l, n, u) () = some (hasB l n, ()) := by
  have l0 := fun A : Type => findS (A := A) (F := slices_Index_int_int_L0) (fun i => ((i : Int), (l.length : Int), n, l, ())) (0, (l.length : Int), n, l, ()) l (fun x => eqZ x n) (Sum.inl (false, (l.length : Int), (l.length : Int), n, l, ())) (fun i => ((i : Int), ())) rfl hl
    (fun i hi => by
      unfold slices_Index_int_int_L0
      simp only [lt_yes hi, if_true, getI_lt hi, some_bind', idxN hi hl (Nat.le_refl _), eqZ_comm n]
      cases eqZ l[i] n <;> rfl)
    (by unfold slices_Index_int_int_L0; simp only [lt_no, Bool.false_eq_true, if_false])
  have e : slices_Index_int_int (l, n, ()) () = some (idxOf (fun x => eqZ x n) l, ()) := by
    unfold slices_Index_int_int idxOf
    simp only [lenI_eq, l0]
    cases l.findIdx? (fun x => eqZ x n) <;> rfl
  unfold impl_SetHas slices_Contains_int_int hasB
  simp only [e, some_bind', idxOf_any]
open Go.Abs
set_option linter.unusedVariables false
set_option linter.unusedSimpArgs false

/-- a set lies in another -/
def subB (a b : List Int) : Bool := a.all (hasB b)
theorem SetSubset_spec (a b : List Int) (u : Unit) (ha : a.length ≤ 1099511627776) (hb : b.length ≤ 1099511627776) : spec_SetSubset (a, b, u) () = some (subB a b, ()) := by
  have l0 := fun A : Type => allS (A := A) (F := spec_SetSubset_L0) (fun i => ((i : Int), (a.length : Int), a, b, ())) (0, (a.length : Int), a, b, ()) a (hasB b) (Sum.inl (false, (a.length : Int), (a.length : Int), a, b, ())) (false, ()) rfl ha
    (fun i hi => by
      unfold spec_SetSubset_L0
      simp only [lt_yes hi, if_true, getI_lt hi, some_bind', SetHas_spec _ _ _ hb, idxN hi ha (Nat.le_refl _)]
      cases hasB b a[i] <;> rfl)
    (by unfold spec_SetSubset_L0; simp only [lt_no, Bool.false_eq_true, if_false])
  unfold spec_SetSubset subB
  simp only [lenI_eq, l0]
  cases a.all (hasB b) <;> rfl
theorem SetSubset_impl (a b : List Int) (u : Unit) (ha : a.length ≤ 1099511627776) (hb : b.length ≤ 1099511627776) : impl_SetSubset (a, b, u) () = some (subB a b, ()) := by
  have l0 := fun A : Type => allS (A := A) (F := impl_SetSubset_L0) (fun i => ((i : Int), (a.length : Int), a, b, ())) (0, (a.length : Int), a, b, ()) a (hasB b) (Sum.inl (false, (a.length : Int), (a.length : Int), a, b, ())) (false, ()) rfl ha
    (fun i hi => by
      unfold impl_SetSubset_L0
      simp only [lt_yes hi, if_true, getI_lt hi, some_bind', SetHas_impl _ _ _ hb, idxN hi ha (Nat.le_refl _)]
      cases hasB b a[i] <;> rfl)
    (by unfold impl_SetSubset_L0; simp only [lt_no, Bool.false_eq_true, if_false])
  unfold impl_SetSubset subB
  simp only [lenI_eq, l0]
  cases a.all (hasB b) <;> rfl
/-- a list in order, nothing twice -/
def ordI (l : List Int) : Nat → Bool
  | 0 => true
  | j + 1 => match l[j]?, l[j + 1]? with | some x, some y => notB (leZ y x) | _, _ => true
def setB (l : List Int) : Bool := (List.range l.length).all (ordI l)
theorem all_succ (q : Nat → Bool) (n : Nat) : (List.range (n + 1)).all q = (q 0 && (List.range n).all fun i => q (i + 1)) := by
  rw [List.range_succ_eq_map, List.all_cons, List.all_map]
  rfl
theorem SetOk_spec (l : List Int) (u : Unit) (hl : l.length ≤ 1099511627776) : spec_SetOk (l, u) () = some (setB l, ()) := by
  have l0 := fun A : Type => allIS (A := A) (F := spec_SetOk_L0) (fun i => ((i : Int), (l.length : Int), l, ())) (0, (l.length : Int), l, ()) l.length (ordI l) (Sum.inl (false, (l.length : Int), (l.length : Int), l, ())) (false, ()) rfl hl
    (fun i hi => by
      unfold spec_SetOk_L0
      cases i with
      | zero =>
        have e : ltZ 0 ((0 : Nat) : Int) = false := rfl
        simp only [lt_yes hi, if_true, e, Bool.false_eq_true, if_false, some_bind', ordI, idxN hi hl (Nat.le_refl _)]
      | succ j =>
        have e : ltZ 0 ((j + 1 : Nat) : Int) = true := by rw [ltZ_iff]; omega
        have hj : j < l.length := by omega
        simp only [lt_yes hi, if_true, e, idx_pred j (by omega), getI_lt hj, getI_lt hi, some_bind', ordI, List.getElem?_eq_getElem hj, List.getElem?_eq_getElem hi, idxN hi hl (Nat.le_refl _)]
        cases leZ l[j + 1] l[j] <;> rfl)
    (by unfold spec_SetOk_L0; simp only [lt_no, Bool.false_eq_true, if_false])
  unfold spec_SetOk setB
  simp only [lenI_eq, l0]
  cases (List.range l.length).all (ordI l) <;> rfl
theorem SetOk_impl (l : List Int) (u : Unit) (hl : l.length ≤ 1099511627776) : impl_SetOk (l, u) () = some (setB l, ()) := by
  have l0 := fun A : Type => allIS (A := A) (F := impl_SetOk_L0) (fun i => (((i + 1 : Nat) : Int), l, ())) (1, l, ()) (l.length - 1) (fun i => ordI l (i + 1)) (Sum.inl (false, ((l.length - 1 + 1 : Nat) : Int), l, ())) (false, ()) rfl (by omega)
    (fun i hi => by
      have hi1 : i + 1 < l.length := by omega
      have hj : i < l.length := by omega
      unfold impl_SetOk_L0
      simp only [lenI_eq, lt_yes hi1, if_true, idx_pred i (by omega), getI_lt hj, getI_lt hi1, some_bind', ordI, List.getElem?_eq_getElem hj, List.getElem?_eq_getElem hi1, idxN hi1 hl (Nat.le_refl _)]
      cases leZ l[i + 1] l[i] <;> rfl)
    (by
      have e : ltZ ((l.length - 1 + 1 : Nat) : Int) (l.length : Int) = false := by rw [Bool.eq_false_iff, Ne, ltZ_iff]; omega
      unfold impl_SetOk_L0
      simp only [lenI_eq, e, Bool.false_eq_true, if_false])
  have hs : setB l = (List.range (l.length - 1)).all fun i => ordI l (i + 1) := by
    unfold setB
    by_cases h0 : l.length = 0
    · rw [h0]; rfl
    · obtain ⟨n, hn⟩ : ∃ n, l.length = n + 1 := ⟨l.length - 1, by omega⟩
      rw [hn, all_succ]
      simp [ordI]
  unfold impl_SetOk
  simp only [l0, hs]
  cases (List.range (l.length - 1)).all (fun i => ordI l (i + 1)) <;> rfl
open Go.Abs
set_option linter.unusedVariables false
set_option linter.unusedSimpArgs false
open Go.Abs
set_option linter.unusedVariables false
set_option linter.unusedSimpArgs false

def insV (n : Int) : List Int → List Int
  | [] => [n]
  | x :: l => if x < n then x :: insV n l else n :: x :: l
theorem insV_split {n : Int} : ∀ {A B : List Int}, (∀ x ∈ A, x < n) → (∀ x ∈ B, n < x) → insV n (A ++ B) = A ++ n :: B
  | [], [], _, _ => rfl
  | [], b :: B, _, h => by
    have : ¬ b < n := by have := h b (by simp); omega
    simp [insV, this]
  | a :: A, B, h, h' => by
    have : a < n := h a (by simp)
    have ih := insV_split (n := n) (A := A) (B := B) (fun x hx => h x (by simp [hx])) h'
    simp [insV, this, ih]
abbrev Asc (l : List Int) : Prop := l.Pairwise (· < ·)
theorem Asc.take_lt {l : List Int} (h : Asc l) {i : Nat} {n : Int} (hi : ∀ x, l[i]? = some x → x < n) (hn : i < l.length) : ∀ x ∈ l.take (i + 1), x < n := fun x hx => by
  obtain ⟨j, hj, rfl⟩ := List.mem_iff_getElem.1 hx
  simp only [List.length_take] at hj
  have hi := hi _ (List.getElem?_eq_getElem hn)
  rw [List.getElem_take]
  rcases Nat.lt_or_ge j i with hlt | hge
  · have := List.pairwise_iff_getElem.1 h j i (by omega) hn hlt
    omega
  · have : j = i := by omega
    subst this
    exact hi
theorem Asc.drop_gt {l : List Int} (h : Asc l) {i : Nat} {n : Int} (hi : ∀ x, l[i]? = some x → n < x) : ∀ x ∈ l.drop i, n < x := fun x hx => by
  obtain ⟨j, hj, rfl⟩ := List.mem_iff_getElem.1 hx
  simp only [List.length_drop] at hj
  have hn : i < l.length := by omega
  have hi := hi _ (List.getElem?_eq_getElem hn)
  rw [List.getElem_drop]
  rcases Nat.eq_zero_or_pos j with h0 | h0
  · subst h0; exact hi
  · have := List.pairwise_iff_getElem.1 h i (i + j) hn (by omega) (by omega)
    omega
theorem has_of_not {l : List Int} {n : Int} (h : n ∉ l) : hasR l n = false := by
  unfold hasR
  rw [List.any_eq_false]
  intro x hx e
  rw [eqZ_dec, decide_eq_true_eq] at e
  exact h (e ▸ hx)
/-- the reference's way -/
theorem Put_s (l : List Int) (n : Int) (u : Unit) (hl : l.length ≤ 1048575) (h : Asc l) (hn : n ∉ l) : spec_l02Put (l, n, u) () = some (insV n l, ()) := by
  have k := fun u => SetHasR_spec l n u (by omega)
  have l0 : ∃ i b, i ≤ l.length ∧ (∀ x ∈ l.take i, x < n) ∧ (∀ x ∈ l.drop i, n < x) ∧ ∀ A : Type, loopN (A := A) big spec_l02Put_L0 (n, l, 0, ()) = some (.exit (Sum.inl (b, n, l, (i : Int), ()))) := by
    rcases one_loop (F := spec_l02Put_L0) (fun i (_ : Unit) => (n, l, (i : Int), ())) l.length (fun i _ => ∀ x ∈ l.take i, x < n) (fun b => ∃ i b0, i ≤ l.length ∧ (∀ x ∈ l.take i, x < n) ∧ (∀ x ∈ l.drop i, n < x) ∧ b = Sum.inl (b0, n, l, (i : Int), ())) (fun _ => False) (by omega)
      (fun i a hi hI => by
        by_cases hlt : i < l.length
        · rcases tf (ltZ l[i] n) with q | q
          · refine .inr (.inl ⟨Sum.inl (false, n, l, (i : Int), ()), ?_, i, false, hi, hI, h.drop_gt fun x hx => ?_, rfl⟩)
            · unfold spec_l02Put_L0
              simp only [lenI_eq, lt_yes hlt, if_true, getI_lt hlt, some_bind', q, Bool.false_eq_true, if_false]
            · rw [List.getElem?_eq_getElem hlt] at hx
              cases hx
              rw [ltZ_dec, decide_eq_false_iff_not] at q
              have : l[i] ≠ n := fun e => hn (e ▸ List.getElem_mem hlt)
              omega
          · refine .inl ⟨(), hlt, ?_, h.take_lt (fun x hx => ?_) hlt⟩
            · unfold spec_l02Put_L0
              simp only [lenI_eq, lt_yes hlt, if_true, getI_lt hlt, some_bind', q, idxN hlt (show l.length ≤ 1099511627776 by omega) (Nat.le_refl _)]
            · rw [List.getElem?_eq_getElem hlt] at hx
              cases hx
              rw [ltZ_dec, decide_eq_true_eq] at q
              exact q
        · obtain rfl : i = l.length := by omega
          refine .inr (.inl ⟨Sum.inl (false, n, l, (l.length : Int), ()), ?_, l.length, false, hi, hI, by simp, rfl⟩)
          unfold spec_l02Put_L0
          simp only [lenI_eq, lt_no, Bool.false_eq_true, if_false, some_bind'])
      (a := ()) (s := (n, l, 0, ())) rfl (by simp) with ⟨b, e, i, b0, h1, h2, h3, rfl⟩ | ⟨_, _, hf⟩
    · exact ⟨i, b0, h1, h2, h3, e⟩
    · exact hf.elim
  obtain ⟨i, b0, h1, h2, h3, e⟩ := l0
  have c1 : cutI l 0 (i : Int) = some (l.take i) := by
    unfold cutI
    rw [if_pos ⟨by omega, by omega, by omega⟩]
    simp
  have c2 : cutI l (i : Int) (lenI l) = some (l.drop i) := by
    unfold cutI
    rw [lenI_eq, if_pos ⟨by omega, by omega, by omega⟩]
    simp
  have lt : (l.take i).length ≤ i := by simp; omega
  have ld : (l.drop i).length = l.length - i := by simp
  have a1 := addNilR (l.take i) (by omega)
  have a2 := addOneR (l.take i) n (by omega)
  have a3 : addI (l.take i ++ [n]) (l.drop i) = some (l.take i ++ [n] ++ l.drop i) := addI_ok (by rw [room_eq]; simp; omega)
  have es := insV_split h2 h3
  rw [List.take_append_drop] at es
  unfold spec_l02Put
  simp only [k, some_bind', has_of_not hn, Bool.false_eq_true, if_false, e, c1, c2, a1, a2, a3, es, List.append_assoc, List.singleton_append]
theorem ins_last {n : Int} {l : List Int} (h : ∀ x ∈ l, x < n) : insV n l = l ++ [n] := by
  have := insV_split (n := n) (A := l) (B := []) h (by simp)
  simpa using this
theorem SetOf_asc (l : List Int) (u : Unit) (hl : l.length ≤ 1048575) (h : Asc l) : spec_SetOf (l, u) () = some (l, ()) := by
  have l0 := fun A : Type => (fold_list (A := A) (F := spec_SetOf_L0) (fun i out => ((i : Int), (l.length : Int), l, out, ())) l (fun i out => out = l.take i) (fun out x => out ++ [x]) (fun out => Sum.inl (false, (l.length : Int), (l.length : Int), l, out, ())) (by omega)
    (fun i out hi ho => by
      subst ho
      have hlt : ∀ x ∈ l.take i, x < l[i] := fun x hx => by
        obtain ⟨j, hj, rfl⟩ := List.mem_iff_getElem.1 hx
        simp only [List.length_take] at hj
        rw [List.getElem_take]
        exact List.pairwise_iff_getElem.1 h j i (by omega) hi (by omega)
      have k := fun u => Put_s (l.take i) l[i] u (by simp; omega) (h.sublist (List.take_sublist _ _)) (fun hm => by have := hlt _ hm; omega)
      constructor
      · unfold spec_SetOf_L0
        simp only [lt_yes hi, if_true, getI_lt hi, some_bind', k, ins_last hlt, idxN hi (show l.length ≤ 1099511627776 by omega) (Nat.le_refl _)]
      · simp)
    (fun out _ => by
      unfold spec_SetOf_L0
      simp only [lt_no, Bool.false_eq_true, if_false])
    (a := []) (s := (0, (l.length : Int), l, [], ())) rfl (by simp)).1
  unfold spec_SetOf
  simp only [lenI_eq, l0, some_bind', foldl_append, List.nil_append]
theorem SetAdd_s (l : List Int) (n : Int) (u : Unit) (hl : l.length ≤ 1048575) (h : Asc l) (hn : n ∉ l) : spec_SetAdd (l, n, u) () = some (insV n l, ()) := by
  unfold spec_SetAdd
  simp only [SetOf_asc l _ hl h, some_bind', Put_s l n _ hl h hn]

theorem insV_mem {n : Int} : ∀ {l : List Int} {x : Int}, x ∈ insV n l ↔ x = n ∨ x ∈ l
  | [], x => by simp [insV]
  | a :: l, x => by
    unfold insV
    split
    · simp only [List.mem_cons, insV_mem (l := l)]
      constructor
      · rintro (h | h | h)
        · exact .inr (.inl h)
        · exact .inl h
        · exact .inr (.inr h)
      · rintro (h | h | h)
        · exact .inr (.inl h)
        · exact .inl h
        · exact .inr (.inr h)
    · simp
theorem insV_length {n : Int} : ∀ {l : List Int}, (insV n l).length = l.length + 1
  | [] => rfl
  | a :: l => by
    unfold insV
    split
    · simp [insV_length (l := l)]
    · simp
theorem insV_asc {n : Int} : ∀ {l : List Int}, Asc l → n ∉ l → Asc (insV n l)
  | [], _, _ => by simp [insV]
  | a :: l, h, hn => by
    obtain ⟨h1, h2⟩ := List.pairwise_cons.1 h
    unfold insV
    split
    · rename_i ha
      refine List.pairwise_cons.2 ⟨fun x hx => ?_, insV_asc h2 (fun hm => hn (by simp [hm]))⟩
      rcases insV_mem.1 hx with rfl | hx
      · exact ha
      · exact h1 x hx
    · rename_i ha
      have : a ≠ n := fun e => hn (by simp [e])
      refine List.pairwise_cons.2 ⟨fun x hx => ?_, h⟩
      rcases List.mem_cons.1 hx with rfl | hx
      · omega
      · have := h1 x hx; omega
open Go.Abs
set_option linter.unusedVariables false
set_option linter.unusedSimpArgs false

theorem compact_upto {d : Array Int} (hs : ∀ i j, i < j → j < d.size → d[i]! ≤ d[j]!) : ∀ m, m ≤ d.size →
    List.Pairwise (· < ·) (Go.Lib.compactUpTo d m) ∧ (∀ x ∈ Go.Lib.compactUpTo d m, ∃ j, j < m ∧ x = d[j]!) ∧ ∀ j, j < m → d[j]! ∈ Go.Lib.compactUpTo d m
  | 0, _ => by
    have e : Go.Lib.compactUpTo d 0 = [] := rfl
    rw [e]
    exact ⟨List.Pairwise.nil, fun x hx => absurd hx (by simp), fun j hj => absurd hj (by omega)⟩
  | m + 1, hm => by
    obtain ⟨h1, h2, h3⟩ := compact_upto hs m (by omega)
    rw [Go.Lib.compactUpTo_succ]
    by_cases hk : Go.Lib.keeps d m = true
    · rw [if_pos hk]
      have hk' : m = 0 ∨ d[m]! ≠ d[m - 1]! := by
        unfold Go.Lib.keeps at hk
        simpa using hk
      have hlt : ∀ j, j < m → d[j]! < d[m]! := fun j hj => by
        rcases hk' with h0 | h0
        · omega
        · have a1 := hs (m - 1) m (by omega) (by omega)
          by_cases e : j = m - 1
          · subst e; omega
          · have a2 := hs j (m - 1) (by omega) (by omega)
            omega
      refine ⟨?_, fun x hx => ?_, fun j hj => ?_⟩
      · rw [List.pairwise_append]
        refine ⟨h1, by simp, fun x hx y hy => ?_⟩
        obtain ⟨j, hj, rfl⟩ := h2 x hx
        rw [List.mem_singleton.1 hy]
        exact hlt j hj
      · rcases List.mem_append.1 hx with hx | hx
        · obtain ⟨j, hj, e⟩ := h2 x hx
          exact ⟨j, by omega, e⟩
        · exact ⟨m, by omega, List.mem_singleton.1 hx⟩
      · by_cases e : j = m
        · subst e; exact List.mem_append_right _ (by simp)
        · exact List.mem_append_left _ (h3 j (by omega))
    · rw [if_neg hk, List.append_nil]
      have hk' : ¬ (m = 0 ∨ d[m]! ≠ d[m - 1]!) := by
        unfold Go.Lib.keeps at hk
        simpa using hk
      have hm0 : m ≠ 0 := fun e => hk' (.inl e)
      have he : d[m]! = d[m - 1]! := Classical.byContradiction fun e => hk' (.inr e)
      refine ⟨h1, fun x hx => ?_, fun j hj => ?_⟩
      · obtain ⟨j, hj, e⟩ := h2 x hx
        exact ⟨j, by omega, e⟩
      · by_cases e : j = m
        · subst e; rw [he]; exact h3 (j - 1) (by omega)
        · exact h3 j (by omega)
theorem sorted_le (zs : List Int) : ∀ i j, i < j → j < (zs.mergeSort fun x y => decide (x ≤ y)).toArray.size → (zs.mergeSort fun x y => decide (x ≤ y)).toArray[i]! ≤ (zs.mergeSort fun x y => decide (x ≤ y)).toArray[j]! := fun i j hij hj => by
  have hp : (zs.mergeSort fun x y => decide (x ≤ y)).Pairwise (fun x y => decide (x ≤ y) = true) := List.pairwise_mergeSort (le := fun x y : Int => decide (x ≤ y)) (fun a b c h1 h2 => by simp at *; omega) (fun a b => by simp; omega) zs
  generalize (zs.mergeSort fun x y => decide (x ≤ y)) = S at hp hj ⊢
  have hj' : j < S.length := by simpa using hj
  rw [List.pairwise_iff_getElem] at hp
  have := hp i j (by omega) hj' hij
  rw [getElem!_pos S.toArray i (by simpa using (show i < S.length by omega)), getElem!_pos S.toArray j hj]
  simpa using this
theorem setLL_facts (zs : List Int) : Asc (setLL zs) ∧ ∀ x, x ∈ setLL zs ↔ x ∈ zs := by
  obtain ⟨h1, h2, h3⟩ := compact_upto (sorted_le zs) _ (Nat.le_refl _)
  have hperm := List.mergeSort_perm zs (fun x y => decide (x ≤ y))
  have e : setLL zs = Go.Lib.compactUpTo (zs.mergeSort fun x y => decide (x ≤ y)).toArray (zs.mergeSort fun x y => decide (x ≤ y)).toArray.size := by
    unfold setLL Go.Lib.compact
    rw [List.size_toArray]
  rw [e]
  refine ⟨h1, fun x => ⟨fun hx => ?_, fun hx => ?_⟩⟩
  · obtain ⟨j, hj, rfl⟩ := h2 x hx
    rw [getElem!_pos _ j hj]
    have := hperm.mem_iff.1 (List.getElem_mem (show j < (zs.mergeSort fun x y => decide (x ≤ y)).length by simpa using hj))
    simpa using this
  · have hx' := hperm.mem_iff.2 hx
    obtain ⟨j, hj, rfl⟩ := List.mem_iff_getElem.1 hx'
    have := h3 j (by simpa using hj)
    rw [getElem!_pos _ j (by simpa using hj)] at this
    simpa using this
theorem asc_eqL : ∀ a b : List Int, Asc a → Asc b → (∀ x, x ∈ a ↔ x ∈ b) → a = b
  | [], [], _, _, _ => rfl
  | [], y :: b, _, _, h => absurd ((h y).2 (by simp)) (by simp)
  | x :: a, [], _, _, h => absurd ((h x).1 (by simp)) (by simp)
  | x :: a, y :: b, ha, hb, h => by
    have ha' := List.pairwise_cons.1 ha
    have hb' := List.pairwise_cons.1 hb
    have exy : x = y := by
      rcases List.mem_cons.1 ((h x).1 (by simp)) with e | e
      · exact e
      · rcases List.mem_cons.1 ((h y).2 (by simp)) with e' | e'
        · exact e'.symm
        · have := ha'.1 y e'
          have := hb'.1 x e
          omega
    subst exy
    have : a = b := asc_eqL a b ha'.2 hb'.2 fun z => by
      have hz := h z
      simp only [List.mem_cons] at hz
      constructor
      · intro hza
        rcases hz.1 (.inr hza) with e | e
        · subst e; exact absurd (ha'.1 z hza) (by omega)
        · exact e
      · intro hzb
        rcases hz.2 (.inr hzb) with e | e
        · subst e; exact absurd (hb'.1 z hzb) (by omega)
        · exact e
    rw [this]
theorem setLL_add {l : List Int} {n : Int} (h : Asc l) (hn : n ∉ l) : setLL (l ++ [n]) = insV n l := by
  obtain ⟨h1, h2⟩ := setLL_facts (l ++ [n])
  refine asc_eqL _ _ h1 (insV_asc h hn) fun x => ?_
  rw [h2, insV_mem, List.mem_append, List.mem_singleton]
  exact Or.comm
theorem SetOf_L (l : List Int) (u : Unit) (h0 : 0 < l.length) (h1 : l.length ≤ 1000) : impl_SetOf (l, u) () = some (setLL l, ()) := if_pos ⟨h0, h1⟩
theorem SetAdd_L (l : List Int) (n : Int) (u : Unit) (hl : l.length ≤ 900) : impl_SetAdd (l, n, u) () = some (setLL (l ++ [n]), ()) := by
  have c : ∀ u, slices_Clone_int_int (l, u) () = some (l, ()) := fun u => by
    have e : addI [] l = some l := by
      rw [addI_ok (by rw [room_eq]; simp; omega)]
      rfl
    unfold slices_Clone_int_int
    simp only [e, some_bind']
  have a : addI l [n] = some (l ++ [n]) := addI_ok (by rw [room_eq]; simp; omega)
  unfold impl_SetAdd
  simp only [c, some_bind', a, SetOf_L (l ++ [n]) _ (by simp) (by simp; omega)]
theorem SetAdd_c (l : List Int) (n : Int) (u : Unit) (hl : l.length ≤ 11) (h : Asc l) (hn : n ∉ l) : impl_SetAdd (l, n, u) () = some (insV n l, ()) := by
  rw [SetAdd_L l n u (by omega), setLL_add h hn]
end Go.Proofs.YtdaafnncfkibkaaGreat
