/-
  Plain laws: which domains have the right form, which are empty, in the program and in the reference. Condition: no list is longer than 2 to the 40.
-/
import Derived.Test.YtjgmjljdhgfdhaaGreatj4LSetM
namespace Go.Proofs.YtjgmjljdhgfdhaaGreat
open Go.Abs
set_option linter.unusedVariables false
set_option linter.unusedSimpArgs false

theorem proj_mode_count {p : D_Project} (h : projB p = true) : p.2.1.length ≤ 6 ∧ ∀ i (hi : i < p.2.1.length), 1 ≤ p.2.1[i].2.2.1.length ∧ p.2.1[i].2.2.1.length ≤ 3 := by
  unfold projB at h
  simp only [Bool.and_eq_true] at h
  refine ⟨?_, fun i hi => ?_⟩
  · have := inB_iff.1 h.1.1.1.1.1.1.1.2
    rw [lenI_eq] at this
    omega
  · have h1 := h.1.1.1.2
    rw [List.all_eq_true] at h1
    have h2 := h1 i (by simpa using hi)
    unfold actI at h2
    rw [List.getElem?_eq_getElem hi] at h2
    simp only [Bool.and_eq_true] at h2
    have h3 := h2.1
    unfold actB at h3
    simp only [Bool.and_eq_true] at h3
    have := inB_iff.1 h3.2.2
    omega
theorem len_eqB {α β : Type} {x : List α} {y : List β} (h : eqZ (lenI x) (lenI y) = true) : x.length = y.length := by
  rw [eqZ_dec, decide_eq_true_eq] at h
  exact Int.ofNat.inj h
def domI (p : D_Project) (b : D_Domain) (i : Nat) : Bool := match p.2.1[i]?, b.1[i]?, b.2.1[i]?, b.2.2.1[i]? with
  | some a, some x, some y, some m => inB x (-2) 62 && inB y (-2) 62 && setB m && subB m (iotaI a.2.2.1.length)
  | _, _, _, _ => true
def domB (p : D_Project) (b : D_Domain) : Bool := projB p && eqZ (lenI b.1) (lenI p.2.1) && eqZ (lenI b.2.1) (lenI p.2.1) && eqZ (lenI b.2.2.1) (lenI p.2.1) && (List.range p.2.1.length).all (domI p b)
theorem isStart_eq (x : Int) (u : Unit) : impl_isStart (x, u) () = some (inB x (-2) 62, ()) := by
  unfold impl_isStart
  simp only [within_eq, some_bind']
theorem dom_loop_s (p : D_Project) (b : D_Domain) (hp : Sm_Project 1099511627776 p) (hb : Sm_Domain 1099511627776 b) (h : projB p = true) (e1 : b.1.length = p.2.1.length) (e2 : b.2.1.length = p.2.1.length) (e3 : b.2.2.1.length = p.2.1.length) :
    ∀ A : Type, loopN (A := A) big spec_DomainForm_L0 (0, (p.2.1.length : Int), p.2.1, b, ()) = some (if (List.range p.2.1.length).all (domI p b) = true then .exit (Sum.inl (false, (p.2.1.length : Int), (p.2.1.length : Int), p.2.1, b, ())) else .ret (false, ())) := by
  have ha := hp.2.1.1
  obtain ⟨-, hm⟩ := proj_mode_count h
  have hmod : ∀ i (hi : i < b.2.2.1.length), b.2.2.1[i].length ≤ 1099511627776 := fun i hi => (hb.2.2.1.2 _ (List.getElem_mem hi)).1
  intro A
  refine allIS (A := A) (F := spec_DomainForm_L0) (fun i => ((i : Int), (p.2.1.length : Int), p.2.1, b, ())) (0, (p.2.1.length : Int), p.2.1, b, ()) p.2.1.length (domI p b) (Sum.inl (false, (p.2.1.length : Int), (p.2.1.length : Int), p.2.1, b, ())) (false, ()) rfl ha
    (fun i hi => ?_) (by unfold spec_DomainForm_L0; simp only [lt_no, Bool.false_eq_true, if_false])
  have h1 : i < b.1.length := by omega
  have h2 : i < b.2.1.length := by omega
  have h3 : i < b.2.2.1.length := by omega
  have hio : (iotaI p.2.1[i].2.2.1.length).length ≤ 1099511627776 := by rw [iotaI_length]; have := (hm i hi).2; omega
  unfold spec_DomainForm_L0 domI
  rw [List.getElem?_eq_getElem hi, List.getElem?_eq_getElem h1, List.getElem?_eq_getElem h2, List.getElem?_eq_getElem h3]
  have k1 := fun u => l01In_eq b.1[i] (-2) 62 u
  have k2 := fun u => l01In_eq b.2.1[i] (-2) 62 u
  have k3 := fun u => SetOk_spec b.2.2.1[i] u (hmod i h3)
  have k4 := fun u => SetSubset_spec b.2.2.1[i] (iotaI p.2.1[i].2.2.1.length) u (hmod i h3) hio
  have k5 := fun u => ModeIndexes_s p.2.1[i] u (by have := (hm i hi).2; omega)
  simp only [lt_yes hi, if_true, getI_lt hi, getI_lt h1, some_bind', k1, idxN hi ha (Nat.le_refl _)]
  rcases tf (inB b.1[i] (-2) 62) with q1 | q1
  · simp [q1, notB]
  rcases tf (inB b.2.1[i] (-2) 62) with q2 | q2
  · simp [q1, q2, k2, notB, getI_lt h2]
  rcases tf (setB b.2.2.1[i]) with q3 | q3
  · simp [q1, q2, q3, k2, k3, notB, getI_lt h2, getI_lt h3]
  rcases tf (subB b.2.2.1[i] (iotaI p.2.1[i].2.2.1.length)) with q4 | q4
  · simp [q1, q2, q3, q4, k2, k3, k4, k5, notB, getI_lt h2, getI_lt h3]
  · simp [-Int.natCast_add, q1, q2, q3, q4, k2, k3, k4, k5, notB, getI_lt h2, getI_lt h3, idxN hi ha (Nat.le_refl _)]
theorem dom_loop_i (p : D_Project) (b : D_Domain) (hp : Sm_Project 1099511627776 p) (hb : Sm_Domain 1099511627776 b) (h : projB p = true) (e1 : b.1.length = p.2.1.length) (e2 : b.2.1.length = p.2.1.length) (e3 : b.2.2.1.length = p.2.1.length) :
    ∀ A : Type, loopN (A := A) big impl_DomainForm_L0 (0, (p.2.1.length : Int), b.2.2.1, b, p, ()) = some (if (List.range p.2.1.length).all (domI p b) = true then .exit (Sum.inl (false, (p.2.1.length : Int), (p.2.1.length : Int), b.2.2.1, b, p, ())) else .ret (false, ())) := by
  have ha := hp.2.1.1
  obtain ⟨-, hm⟩ := proj_mode_count h
  have hmod : ∀ i (hi : i < b.2.2.1.length), b.2.2.1[i].length ≤ 1099511627776 := fun i hi => (hb.2.2.1.2 _ (List.getElem_mem hi)).1
  intro A
  refine allIS (A := A) (F := impl_DomainForm_L0) (fun i => ((i : Int), (p.2.1.length : Int), b.2.2.1, b, p, ())) (0, (p.2.1.length : Int), b.2.2.1, b, p, ()) p.2.1.length (domI p b) (Sum.inl (false, (p.2.1.length : Int), (p.2.1.length : Int), b.2.2.1, b, p, ())) (false, ()) rfl ha
    (fun i hi => ?_) (by unfold impl_DomainForm_L0; simp only [lt_no, Bool.false_eq_true, if_false])
  have h1 : i < b.1.length := by omega
  have h2 : i < b.2.1.length := by omega
  have h3 : i < b.2.2.1.length := by omega
  have hio : (iotaI p.2.1[i].2.2.1.length).length ≤ 1099511627776 := by rw [iotaI_length]; have := (hm i hi).2; omega
  unfold impl_DomainForm_L0 domI
  rw [List.getElem?_eq_getElem hi, List.getElem?_eq_getElem h1, List.getElem?_eq_getElem h2, List.getElem?_eq_getElem h3]
  have k1 := fun u => isStart_eq b.1[i] u
  have k2 := fun u => isStart_eq b.2.1[i] u
  have k3 := fun u => SetOk_impl b.2.2.1[i] u (hmod i h3)
  have k4 := fun u => SetSubset_impl b.2.2.1[i] (iotaI p.2.1[i].2.2.1.length) u (hmod i h3) hio
  have k5 := fun u => ModeIndexes_i p.2.1[i] u (by have := (hm i hi).2; omega)
  simp only [lt_yes hi, if_true, getI_lt h3, getI_lt h1, some_bind', k1, idxN hi ha (Nat.le_refl _)]
  rcases tf (inB b.1[i] (-2) 62) with q1 | q1
  · simp [q1, notB]
  rcases tf (inB b.2.1[i] (-2) 62) with q2 | q2
  · simp [q1, q2, k2, notB, getI_lt h2]
  rcases tf (setB b.2.2.1[i]) with q3 | q3
  · simp [q1, q2, q3, k2, k3, notB, getI_lt h2]
  rcases tf (subB b.2.2.1[i] (iotaI p.2.1[i].2.2.1.length)) with q4 | q4
  · simp [q1, q2, q3, q4, k2, k3, k4, k5, notB, getI_lt h2, getI_lt hi]
  · simp [-Int.natCast_add, q1, q2, q3, q4, k2, k3, k4, k5, notB, getI_lt h2, getI_lt hi, idxN hi ha (Nat.le_refl _)]
theorem DomainForm_spec (p : D_Project) (b : D_Domain) (u : Unit) (hp : Sm_Project 1099511627776 p) (hb : Sm_Domain 1099511627776 b) : spec_DomainForm (p, b, u) () = some (domB p b, ()) := by
  unfold spec_DomainForm domB
  simp only [ProjectOk_spec _ _ hp, some_bind']
  rcases tf (projB p) with h | h
  · simp [h, notB]
  rcases tf (eqZ (lenI b.1) (lenI p.2.1)) with h1 | h1
  · simp [h, h1, notB]
  rcases tf (eqZ (lenI b.2.1) (lenI p.2.1)) with h2 | h2
  · simp [h, h1, h2, notB]
  rcases tf (eqZ (lenI b.2.2.1) (lenI p.2.1)) with h3 | h3
  · simp [h, h1, h2, h3, notB]
  have l0 := dom_loop_s p b hp hb h (len_eqB h1) (len_eqB h2) (len_eqB h3)
  simp only [h, h1, h2, h3, notB_true, Bool.false_eq_true, if_false, some_bind', Bool.and_self, Bool.true_and]
  simp only [lenI_eq, l0]
  cases (List.range p.2.1.length).all (domI p b) <;> rfl
theorem DomainForm_impl (p : D_Project) (b : D_Domain) (u : Unit) (hp : Sm_Project 1099511627776 p) (hb : Sm_Domain 1099511627776 b) : impl_DomainForm (p, b, u) () = some (domB p b, ()) := by
  unfold impl_DomainForm domB
  simp only [ProjectOk_impl _ _ hp, some_bind']
  rcases tf (projB p) with h | h
  · simp [h, notB]
  rcases tf (eqZ (lenI b.1) (lenI p.2.1)) with h1 | h1
  · simp [h, h1, notB]
  rcases tf (eqZ (lenI b.2.1) (lenI p.2.1)) with h2 | h2
  · simp [h, h1, h2, notB]
  rcases tf (eqZ (lenI b.2.2.1) (lenI p.2.1)) with h3 | h3
  · simp [h, h1, h2, h3, notB]
  have l0 := dom_loop_i p b hp hb h (len_eqB h1) (len_eqB h2) (len_eqB h3)
  simp only [h, h1, h2, h3, notB_true, Bool.false_eq_true, if_false, some_bind', Bool.and_self, Bool.true_and]
  simp only [lenI_eq, len_eqB h3, l0]
  cases (List.range p.2.1.length).all (domI p b) <;> rfl
/-- no start is left for the activity -/
def badI (b : D_Domain) (i : Nat) : Bool := match b.1[i]?, b.2.1[i]? with
  | some n, some m => ltZ m n
  | _, _ => false
def emptyB (b : D_Domain) : Bool := if (List.range b.1.length).all (fun i => notB (badI b i)) = true then b.2.2.1.any (fun l => eqZ (lenI l) 0) else true
theorem empty_L0 (b : D_Domain) (hb : Sm_Domain 1099511627776 b) (A : Type) : loopN (A := A) big spec_DomainEmpty_L0 (0, (b.1.length : Int), b.1, b, ()) = some (if (List.range b.1.length).all (fun i => notB (badI b i)) = true then .exit (Sum.inl (false, (b.1.length : Int), (b.1.length : Int), b.1, b, ())) else .ret (true, ())) := by
  have hl := hb.1.1
  refine allIS (A := A) (F := spec_DomainEmpty_L0) (fun i => ((i : Int), (b.1.length : Int), b.1, b, ())) (0, (b.1.length : Int), b.1, b, ()) b.1.length (fun i => notB (badI b i)) (Sum.inl (false, (b.1.length : Int), (b.1.length : Int), b.1, b, ())) (true, ()) rfl hl
    (fun i hi => ?_) (by unfold spec_DomainEmpty_L0; simp only [lt_no, Bool.false_eq_true, if_false])
  unfold spec_DomainEmpty_L0 badI
  rw [List.getElem?_eq_getElem hi]
  simp only [lt_yes hi, if_true, getI_lt hi, some_bind', lenI_eq, idxN hi hl (Nat.le_refl _)]
  by_cases h : i < b.2.1.length
  · rw [List.getElem?_eq_getElem h]
    simp only [lt_yes h, if_true, getI_lt h, some_bind']
    rcases tf (ltZ b.2.1[i] b.1[i]) with q | q <;> simp [-Int.natCast_add, q, notB, idxN hi hl (Nat.le_refl _)]
  · have e : ltZ (i : Int) (b.2.1.length : Int) = false := by rw [Bool.eq_false_iff, Ne, ltZ_iff]; omega
    rw [List.getElem?_eq_none (by omega)]
    simp [-Int.natCast_add, e, notB, idxN hi hl (Nat.le_refl _)]
theorem DomainEmpty_spec (b : D_Domain) (u : Unit) (hb : Sm_Domain 1099511627776 b) : spec_DomainEmpty (b, u) () = some (emptyB b, ()) := by
  have hl := hb.2.2.1.1
  have l1 := fun A : Type => allS (A := A) (F := spec_DomainEmpty_L1) (fun i => ((i : Int), (b.2.2.1.length : Int), b.2.2.1, ())) (0, (b.2.2.1.length : Int), b.2.2.1, ()) b.2.2.1 (fun l => notB (eqZ (lenI l) 0)) (Sum.inl (false, (b.2.2.1.length : Int), (b.2.2.1.length : Int), b.2.2.1, ())) (true, ()) rfl hl
    (fun i hi => by
      unfold spec_DomainEmpty_L1
      simp only [lt_yes hi, if_true, getI_lt hi, some_bind', idxN hi hl (Nat.le_refl _)]
      cases eqZ (lenI b.2.2.1[i]) 0 <;> rfl)
    (by unfold spec_DomainEmpty_L1; simp only [lt_no, Bool.false_eq_true, if_false])
  have l0 := empty_L0 b hb
  unfold spec_DomainEmpty emptyB
  simp only [lenI_eq, l0, some_bind']
  rcases tf ((List.range b.1.length).all fun i => notB (badI b i)) with h | h
  · simp [h]
  · simp only [h, if_true, some_bind']
    have l1' := l1
    simp only [lenI_eq] at l1'
    simp only [l1', all_notB]
    cases b.2.2.1.any (fun l => eqZ (l.length : Int) 0) <;> rfl
theorem IndexFunc_ints (l : List (List Int)) (f : (List Int × Unit) → Option Bool) (q : List Int → Bool) (u : Unit) (hl : l.length ≤ 1099511627776) (hf : ∀ a ∈ l, f (a, ()) = some (q a)) : slices_IndexFunc_int_int (l, f, u) () = some (idxOf q l, ()) := by
  unfold slices_IndexFunc_int_int idxOf
  simp only [lenI_eq]
  rw [findS (F := slices_IndexFunc_int_int_L0) (fun i => ((i : Int), (l.length : Int), f, l, ())) (0, (l.length : Int), f, l, ()) l q (Sum.inl (false, (l.length : Int), (l.length : Int), f, l, ())) (fun i => ((i : Int), ())) rfl hl
    (fun i hi => by
      unfold slices_IndexFunc_int_int_L0
      simp only [lt_yes hi, if_true, getI_lt hi, some_bind', hf _ (List.getElem_mem hi), idxN hi hl (Nat.le_refl _)]
      generalize q _ = r
      cases r <;> rfl)
    (by unfold slices_IndexFunc_int_int_L0; simp only [lt_no, Bool.false_eq_true, if_false])]
  cases l.findIdx? q <;> rfl
theorem DomainEmpty_impl (b : D_Domain) (u : Unit) (hb : Sm_Domain 1099511627776 b) : impl_DomainEmpty (b, u) () = some (emptyB b, ()) := by
  have hl := hb.2.2.1.1
  have e : impl_DomainEmpty_L0 = spec_DomainEmpty_L0 := rfl
  have l0 := empty_L0 b hb
  unfold impl_DomainEmpty emptyB
  simp only [lenI_eq, e, l0, some_bind']
  rcases tf ((List.range b.1.length).all fun i => notB (badI b i)) with h | h
  · simp [h]
  · simp only [h, if_true, some_bind']
    unfold slices_ContainsFunc_int_int
    rw [IndexFunc_ints b.2.2.1 _ (fun l => eqZ (l.length : Int) 0) () hl (fun a _ => by
      unfold impl_DomainEmpty_1
      simp only [lenI_eq, some_bind'])]
    simp only [some_bind', idxOf_any]
/-- a domain of the right form that is not empty -/
def useB (p : D_Project) (b : D_Domain) : Bool := domB p b && notB (emptyB b)
/-- what a domain of the right form has at a place -/
theorem dom_at {p : D_Project} {b : D_Domain} (h : domB p b = true) {i : Nat} (hi : i < p.2.1.length) :
    ∃ (x y : Int) (m : List Int), getI b.1 (i : Int) = some x ∧ getI b.2.1 (i : Int) = some y ∧ getI b.2.2.1 (i : Int) = some m ∧ m ∈ b.2.2.1 ∧ -2 ≤ x ∧ x ≤ 62 ∧ -2 ≤ y ∧ y ≤ 62 ∧ setB m = true ∧ subB m (iotaI p.2.1[i].2.2.1.length) = true := by
  unfold domB at h
  simp only [Bool.and_eq_true] at h
  have h1 : i < b.1.length := by rw [len_eqB h.1.1.1.2]; exact hi
  have h2 : i < b.2.1.length := by rw [len_eqB h.1.1.2]; exact hi
  have h3 : i < b.2.2.1.length := by rw [len_eqB h.1.2]; exact hi
  have h4 := List.all_eq_true.1 h.2 i (by simpa using hi)
  unfold domI at h4
  rw [List.getElem?_eq_getElem hi, List.getElem?_eq_getElem h1, List.getElem?_eq_getElem h2, List.getElem?_eq_getElem h3] at h4
  simp only [Bool.and_eq_true] at h4
  have k1 := inB_iff.1 h4.1.1.1
  have k2 := inB_iff.1 h4.1.1.2
  exact ⟨_, _, _, getI_lt h1, getI_lt h2, getI_lt h3, List.getElem_mem h3, k1.1, k1.2, k2.1, k2.2, h4.1.2, h4.2⟩
theorem proj_of_dom {p : D_Project} {b : D_Domain} (h : domB p b = true) : projB p = true := by
  unfold domB at h
  simp only [Bool.and_eq_true] at h
  exact h.1.1.1.1
end Go.Proofs.YtjgmjljdhgfdhaaGreat
